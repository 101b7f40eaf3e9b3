/- Chapter 22: may a program be written: the program's answer. -/
import Derived.Test.YthmlninecfjjgaaG5
import Derived.Test.YthmlninecfjjgaaG3
namespace Go.Proofs.Ythmlninecfjjgaa.AD
open Go.Proofs
set_option linter.unusedVariables false
set_option linter.unusedSimpArgs false
set_option maxRecDepth 100000

theorem put_at (n : Int) (h0 : 0 ≤ n) (h1 : n ≤ 2147483647) (g len : Nat) (ys : List PV) (hl : len = ys.length) (hy : ys.length ≤ 35184372088832) :
    MethV Try.prog 96 [.view (.b 0) g 1 len, .p (.int .i64 n)] [.buf g 1 ys] (.view (.b 0) (g + (numP 5 n).length) 1 (len + (numP 5 n).length)) [.buf (g + (numP 5 n).length) 1 (ys ++ numP 5 n)] := by
  subst hl
  exact put_code_spec n h0 h1 g ys hy

def pgCells (κ : Int) (T : List ByteArray) (C : List Ins) (S : Int) : Ob := .cells [.p (.int .u8 κ), .p (.list 1 (tP T)), .p (.list 3 (cP C)), .p (.int .i64 S)]

theorem write_in (κ : Int) (T : List ByteArray) (C : List Ins) (S : Int) (hTl : T.length ≤ 8192) (hCl : C.length ≤ 32768) (hS : 0 ≤ S ∧ S ≤ 2147483647) (hok : C.all insOk = true) (K : AV → List Ob → List Ob → Prop)
    (h : ∀ (m g : Nat) (ys : List PV) (lo' : List Ob), lo'[m]? = some (.buf g 1 ys) → (1048576 < (ys.length : Int) ↔ 1048576 < hdSz T C S + codeSz C + txtSz T) → (ys.length : Int) ≤ 9000000000 → K (.view (.l m) g 1 ys.length) [] lo') :
    CallVC Try.prog 66 [.p (encPg κ T C S)] [] [pgCells κ T C S, pgCells κ T C S] K := by
  have hT := tP_len T
  have hC := cP_len C
  have hdef : hdSz T C S = 3 + szN 5 S + szN 5 T.length + szN 5 C.length := rfl
  have l1 := numP_len 5 S
  have l2 := numP_len 5 T.length
  have l3 := numP_len 5 C.length
  have r1 := szN_range 5 S
  have r2 := szN_range 5 T.length
  have r3 := szN_range 5 C.length
  refine CallVC.inline f66_ok ?_
  (conv => whnf)
  refine CallVC.methV' [3, 0, 1, 2] 4 [pgCells κ T C S, pgCells κ T C S, pgCells κ T C S, .buf (0 + (numP 5 S).length) 1 ([.int .u8 86, .int .u8 80, .int .u8 κ] ++ numP 5 S)] (.view (.l 3) (0 + (numP 5 S).length) 1 (3 + (numP 5 S).length))
    (put_at S hS.1 hS.2 0 3 [.int .u8 86, .int .u8 80, .int .u8 κ] rfl (by simp)) rfl rfl rfl rfl rfl rfl (by decide) (by decide) rfl ?_
  (conv => whnf)
  rw [hT]
  generalize hy1 : ([.int .u8 86, .int .u8 80, .int .u8 κ] : List PV) ++ numP 5 S = y1
  generalize hg1 : 0 + (numP 5 S).length = g1
  generalize hn1 : 3 + (numP 5 S).length = n1
  have e1 : n1 = y1.length := by rw [← hn1, ← hy1]; simp; omega
  have b1 : n1 ≤ 10 := by omega
  refine CallVC.methV' [3, 0, 1, 2] 4 [pgCells κ T C S, pgCells κ T C S, pgCells κ T C S, .buf (g1 + (numP 5 T.length).length) 1 (y1 ++ numP 5 T.length)] (.view (.l 3) (g1 + (numP 5 T.length).length) 1 (n1 + (numP 5 T.length).length))
    (put_at T.length (by omega) (by omega) g1 n1 y1 e1 (by omega)) rfl rfl rfl rfl rfl rfl (by decide) (by decide) rfl ?_
  (conv => whnf)
  generalize hy2 : y1 ++ numP 5 T.length = y2
  generalize hg2 : g1 + (numP 5 T.length).length = g2
  generalize hn2 : n1 + (numP 5 T.length).length = n2
  have e2 : n2 = y2.length := by rw [← hn2, ← hy2, e1]; simp
  have t2 : (n2 : Int) + szN 5 C.length = hdSz T C S := by omega
  have codes : ∀ (g n : Nat) (ys : List PV), n = ys.length → (n : Int) + szN 5 C.length = hdSz T C S + txtSz T → n ≤ 2000000 → W Try.prog f66.c48 [(1, .ref (.l 2) 0), (3, .view (.l 3) g 1 n)] [] [pgCells κ T C S, pgCells κ T C S, pgCells κ T C S, .buf g 1 ys] (endI f66 K) := by
    intro g n ys hn ht hb
    (conv => whnf)
    rw [hC]
    refine CallVC.methV' [3, 0, 1, 2] 4 [pgCells κ T C S, pgCells κ T C S, pgCells κ T C S, .buf (g + (numP 5 C.length).length) 1 (ys ++ numP 5 C.length)] (.view (.l 3) (g + (numP 5 C.length).length) 1 (n + (numP 5 C.length).length))
      (put_at C.length (by omega) (by omega) g n ys hn (by omega)) rfl rfl rfl rfl rfl rfl (by decide) (by decide) rfl ?_
    (conv => whnf)
    generalize hy2 : ys ++ numP 5 C.length = zs
    generalize hg2 : g + (numP 5 C.length).length = gz
    generalize hn2 : n + (numP 5 C.length).length = nz
    have ez : nz = zs.length := by rw [← hn2, ← hy2, hn]; simp
    have tz : (nz : Int) = hdSz T C S + txtSz T := by omega
    have bz : nz ≤ 2000010 := by omega
    intro R hR
    have key : ∀ (rest : List Ins) (i g n : Nat) (ys : List PV), C.drop i = rest → i ≤ C.length → n = ys.length → (n : Int) + codeSz rest = hdSz T C S + codeSz C + txtSz T → n ≤ 2000010 + 13 * i → R [(3, .view (.l 3) g 1 n), (47, .p (.list 3 (cP C))), (48, .p (.int .i64 (cP C).length)), (49, .p (.int .i64 i))] [] [pgCells κ T C S, pgCells κ T C S, pgCells κ T C S, .buf g 1 ys] := by
      intro rest
      induction rest with
      | nil =>
        intro i g n ys hd hil hn ht hb
        have hl := drop_nil hd
        simp only [codeSz] at ht
        refine hR _ _ _ ?_
        (conv => whnf)
        refine splitB_f (decide_eq_false (by omega)) ?_
        (conv => whnf)
        have q := h 3 g ys [pgCells κ T C S, pgCells κ T C S, pgCells κ T C S, .buf g 1 ys] rfl (by omega) (by omega)
        rw [← hn] at q
        exact q
      | cons x r ihr =>
        intro i g n ys hd hil hn ht hb
        obtain ⟨hg, hd', hi⟩ := drop_cons hd
        have hx : insOk x = true := by
          rw [List.all_eq_true] at hok
          exact hok x (List.mem_of_getElem? hg)
        obtain ⟨⟨a1, a2⟩, b1', b2'⟩ := insOk_fits hx
        have ho := codeOf_spec x.op
        have hA : (IntKind.u8.wrap (BitVec.ofInt IntKind.u8.bits (shp x.op) &&& BitVec.ofInt IntKind.u8.bits 1).toNat != 0) = hasA x.op := shp_and1 x.op
        have hB : (IntKind.u8.wrap (BitVec.ofInt IntKind.u8.bits (shp x.op) &&& BitVec.ofInt IntKind.u8.bits 2).toNat != 0) = hasB x.op := shp_and2 x.op
        have hdx : insSz x = 1 + (if hasA x.op then szN 5 x.a else 0) + (if hasB x.op then szN 5 x.b else 0) := rfl
        have hra := szN_range 5 x.a
        have hrb := szN_range 5 x.b
        have la := numP_len 5 x.a
        have lb := numP_len 5 x.b
        simp only [codeSz] at ht
        refine hR _ _ _ ?_
        (conv => whnf)
        refine splitB_t (decide_eq_true (by omega)) ?_
        (conv => whnf)
        refine ⟨rfl, insP x, ⟨by omega, cP_get hg⟩, ?_⟩
        (conv => whnf)
        refine ⟨rfl, ?_⟩
        (conv => whnf)
        refine ⟨⟨rfl, rfl, rfl, by omega⟩, by simp [room]; omega, ys ++ [.int .u8 x.op], by rw [List.take_of_length_le (by omega)], ?_⟩
        (conv => whnf)
        refine CallVC.pureF ho rfl ?_
        (conv => whnf)
        rw [hA]
        generalize hasA x.op = va at hA hdx
        generalize hasB x.op = vb at hB hdx
        cases va <;> cases vb
        all_goals simp only [Bool.false_eq_true, if_false, if_true] at hdx
        · refine splitB_f rfl ?_
          (conv => whnf)
          refine CallVC.pureF ho rfl ?_
          (conv => whnf)
          rw [hB]
          refine splitB_f rfl ?_
          (conv => whnf)
          rw [IntWalk.i64_in (i + 1) (by omega)]
          exact ihr (i + 1) (g + 1) (n + 1) (ys ++ [.int .u8 x.op]) hd' (by omega) (by rw [hn]; simp <;> omega) (by push_cast; omega) (by push_cast; omega)
        · refine splitB_f rfl ?_
          (conv => whnf)
          refine CallVC.pureF ho rfl ?_
          (conv => whnf)
          rw [hB]
          refine splitB_t rfl ?_
          (conv => whnf)
          refine CallVC.methV' [3, 0, 1, 2, 4] 5 [pgCells κ T C S, pgCells κ T C S, pgCells κ T C S, .buf (g + 1 + (numP 5 x.b).length) 1 (ys ++ [.int .u8 x.op] ++ numP 5 x.b), .cells [.p (.int .u8 x.op), .p (.int .i64 x.a), .p (.int .i64 x.b)]] (.view (.l 3) (g + 1 + (numP 5 x.b).length) 1 (n + 1 + (numP 5 x.b).length))
            (put_at x.b b1' b2' (g + 1) (n + 1) (ys ++ [.int .u8 x.op]) (by rw [hn]; simp <;> omega) (by simp; omega)) rfl rfl rfl rfl rfl rfl (by decide) (by decide) rfl ?_
          (conv => whnf)
          rw [IntWalk.i64_in (i + 1) (by omega)]
          exact ihr (i + 1) (g + 1 + (numP 5 x.b).length) (n + 1 + (numP 5 x.b).length) (ys ++ [.int .u8 x.op] ++ numP 5 x.b) hd' (by omega) (by rw [hn]; simp <;> omega) (by push_cast; omega) (by push_cast; omega)
        · refine splitB_t rfl ?_
          (conv => whnf)
          refine CallVC.methV' [3, 0, 1, 2, 4] 5 [pgCells κ T C S, pgCells κ T C S, pgCells κ T C S, .buf (g + 1 + (numP 5 x.a).length) 1 (ys ++ [.int .u8 x.op] ++ numP 5 x.a), .cells [.p (.int .u8 x.op), .p (.int .i64 x.a), .p (.int .i64 x.b)]] (.view (.l 3) (g + 1 + (numP 5 x.a).length) 1 (n + 1 + (numP 5 x.a).length))
            (put_at x.a a1 a2 (g + 1) (n + 1) (ys ++ [.int .u8 x.op]) (by rw [hn]; simp <;> omega) (by simp; omega)) rfl rfl rfl rfl rfl rfl (by decide) (by decide) rfl ?_
          (conv => whnf)
          refine CallVC.pureF ho rfl ?_
          (conv => whnf)
          rw [hB]
          refine splitB_f rfl ?_
          (conv => whnf)
          rw [IntWalk.i64_in (i + 1) (by omega)]
          exact ihr (i + 1) (g + 1 + (numP 5 x.a).length) (n + 1 + (numP 5 x.a).length) (ys ++ [.int .u8 x.op] ++ numP 5 x.a) hd' (by omega) (by rw [hn]; simp <;> omega) (by push_cast; omega) (by push_cast; omega)
        · refine splitB_t rfl ?_
          (conv => whnf)
          refine CallVC.methV' [3, 0, 1, 2, 4] 5 [pgCells κ T C S, pgCells κ T C S, pgCells κ T C S, .buf (g + 1 + (numP 5 x.a).length) 1 (ys ++ [.int .u8 x.op] ++ numP 5 x.a), .cells [.p (.int .u8 x.op), .p (.int .i64 x.a), .p (.int .i64 x.b)]] (.view (.l 3) (g + 1 + (numP 5 x.a).length) 1 (n + 1 + (numP 5 x.a).length))
            (put_at x.a a1 a2 (g + 1) (n + 1) (ys ++ [.int .u8 x.op]) (by rw [hn]; simp <;> omega) (by simp; omega)) rfl rfl rfl rfl rfl rfl (by decide) (by decide) rfl ?_
          (conv => whnf)
          refine CallVC.pureF ho rfl ?_
          (conv => whnf)
          rw [hB]
          refine splitB_t rfl ?_
          (conv => whnf)
          refine CallVC.methV' [3, 0, 1, 2, 4] 5 [pgCells κ T C S, pgCells κ T C S, pgCells κ T C S, .buf (g + 1 + (numP 5 x.a).length + (numP 5 x.b).length) 1 (ys ++ [.int .u8 x.op] ++ numP 5 x.a ++ numP 5 x.b), .cells [.p (.int .u8 x.op), .p (.int .i64 x.a), .p (.int .i64 x.b)]] (.view (.l 3) (g + 1 + (numP 5 x.a).length + (numP 5 x.b).length) 1 (n + 1 + (numP 5 x.a).length + (numP 5 x.b).length))
            (put_at x.b b1' b2' (g + 1 + (numP 5 x.a).length) (n + 1 + (numP 5 x.a).length) (ys ++ [.int .u8 x.op] ++ numP 5 x.a) (by rw [hn]; simp <;> omega) (by simp; omega)) rfl rfl rfl rfl rfl rfl (by decide) (by decide) rfl ?_
          (conv => whnf)
          rw [IntWalk.i64_in (i + 1) (by omega)]
          exact ihr (i + 1) (g + 1 + (numP 5 x.a).length + (numP 5 x.b).length) (n + 1 + (numP 5 x.a).length + (numP 5 x.b).length) (ys ++ [.int .u8 x.op] ++ numP 5 x.a ++ numP 5 x.b) hd' (by omega) (by rw [hn]; simp <;> omega) (by push_cast; omega) (by push_cast; omega)
    exact key C 0 gz nz zs rfl (by omega) ez (by omega) (by omega)
  intro R hR
  have key : ∀ (rest : List ByteArray) (i g n : Nat) (ys : List PV), T.drop i = rest → n = ys.length → (n : Int) + szN 5 C.length + txtSz rest = hdSz T C S + txtSz T → n ≤ 1048600 → R [(1, .ref (.l 2) 0), (3, .view (.l 3) g 1 n), (21, .p (.list 1 (tP T))), (22, .p (.int .i64 (tP T).length)), (23, .p (.int .i64 i))] [] [pgCells κ T C S, pgCells κ T C S, pgCells κ T C S, .buf g 1 ys] := by
    intro rest
    induction rest with
    | nil =>
      intro i g n ys hd hn ht hb
      have hl := drop_nil hd
      simp only [txtSz] at ht
      refine hR _ _ _ ?_
      (conv => whnf)
      refine splitB_f (decide_eq_false (by omega)) ?_
      have q := codes g n ys hn (by omega) (by omega)
      (conv at q => whnf)
      (conv => whnf)
      exact q
    | cons t r ihr =>
      intro i g n ys hd hn ht hb
      obtain ⟨hg, hd', hi⟩ := drop_cons hd
      have hnn := txtSz_nonneg r
      have hrg := szN_range 5 t.size
      have lt := numP_len 5 t.size
      have hcc := codeSz_range C
      simp only [txtSz] at ht
      refine hR _ _ _ ?_
      (conv => whnf)
      refine splitB_t (decide_eq_true (by omega)) ?_
      (conv => whnf)
      refine ⟨rfl, .str t, ⟨by omega, tP_get hg⟩, ?_⟩
      (conv => whnf)
      refine ⟨rfl, ?_⟩
      (conv => whnf)
      rw [IntWalk.i64_in (1048576 - (n : Int)) (by omega)]
      refine splitB_dec (fun h1 => ?_) (fun h1 => ?_)
      · (conv => whnf)
        refine ⟨⟨by omega, by omega, by simp [room]⟩, List.replicate 1048577 (.int .u8 0), rfl, ?_⟩
        (conv => whnf)
        have hl : (List.replicate 1048577 (PV.int .u8 0)).length = 1048577 := List.length_replicate
        have q := h 4 0 (List.replicate 1048577 (.int .u8 0)) [pgCells κ T C S, pgCells κ T C S, pgCells κ T C S, .buf g 1 ys, .buf 0 1 (List.replicate 1048577 (.int .u8 0))] rfl (by rw [hl]; omega) (by rw [hl]; omega)
        rw [hl] at q
        exact q
      · (conv => whnf)
        refine CallVC.methV' [3, 0, 1, 2] 4 [pgCells κ T C S, pgCells κ T C S, pgCells κ T C S, .buf (g + (numP 5 t.size).length) 1 (ys ++ numP 5 t.size)] (.view (.l 3) (g + (numP 5 t.size).length) 1 (n + (numP 5 t.size).length))
          (put_at t.size (by omega) (by omega) g n ys hn (by omega)) rfl rfl rfl rfl rfl rfl (by decide) (by decide) rfl ?_
        (conv => whnf)
        have hbl : (byteInts t).length = t.size := by rw [byteInts, List.length_map, ba_size]
        refine ⟨⟨rfl, rfl, rfl, by simp; omega⟩, by simp [room, hbl]; omega, (ys ++ numP 5 t.size) ++ byteInts t, by rw [List.take_of_length_le (by simp; omega)], ?_⟩
        (conv => whnf)
        rw [hbl, IntWalk.i64_in (i + 1) (by omega)]
        exact ihr (i + 1) _ _ _ hd' (by rw [hn]; simp [hbl]; omega) (by push_cast; omega) (by omega)
  exact key T 0 g2 n2 y2 rfl e2 (by omega) (by omega)


theorem IndexFuncI_spec (xs : List Ins) (hx : (xs.length : Int) ≤ 9223372036854775807) (p : Ins → Bool) (f : Nat) (hf : enters Try.prog f = true) (hp : ∀ a, a ∈ xs → pureF Try.prog f [.p (insP a)] (.p (.bool (p a)))) :
    pureF Try.prog 95 [.p (.list 3 (cP xs)), .p (.fn (.func f))] (.p (.int .i64 (idxF p xs))) := by
  refine pureF_of f95_ok fun H => ?_
  (conv => whnf)
  intro R hR
  have he := cP_len xs
  have key : ∀ (rest : List Ins) (i : Nat), xs.drop i = rest → idxF p xs = (if idxF p rest = -1 then -1 else idxF p rest + i) → R [(0, .p (.list 3 (cP xs))), (1, .p (.fn (.func f))), (7, .p (.int .i64 (cP xs).length)), (8, .p (.int .i64 i))] H [] := by
    intro rest
    induction rest with
    | nil =>
      intro i hd hq
      have hl := drop_nil hd
      refine hR _ _ _ ?_
      (conv => whnf)
      refine splitB_f (decide_eq_false (by omega)) ?_
      exact ⟨by rw [hq]; rfl, rfl⟩
    | cons a r ih =>
      intro i hd hq
      obtain ⟨hg, hd', hi⟩ := drop_cons hd
      have hpa := hp a (List.mem_of_getElem? hg)
      refine hR _ _ _ ?_
      (conv => whnf)
      refine splitB_t (decide_eq_true (by omega)) ?_
      (conv => whnf)
      refine ⟨rfl, insP a, ⟨by omega, cP_get hg⟩, ?_⟩
      (conv => whnf)
      refine ⟨hf, ?_⟩
      refine CallVC.pureF hpa rfl ?_
      (conv => whnf)
      refine splitB_intro (fun h => ?_) (fun h => ?_)
      · exact ⟨by rw [hq]; simp [idxF, h], rfl⟩
      · (conv => whnf)
        rw [IntWalk.i64_in _ (by omega)]
        refine ih (i + 1) hd' ?_
        rw [hq]
        simp only [idxF, h, Bool.false_eq_true, if_false]
        have := idxF_ge p r
        by_cases h3 : idxF p r = -1
        · rw [if_pos h3, if_pos rfl, if_pos h3]
        · rw [if_neg h3, if_neg (by omega), if_neg h3]; push_cast; omega
  refine key xs 0 rfl ?_
  by_cases h3 : idxF p xs = -1
  · rw [if_pos h3]; exact h3
  · rw [if_neg h3]; simp
theorem ContainsFuncI_spec (xs : List Ins) (hx : (xs.length : Int) ≤ 9223372036854775807) (p : Ins → Bool) (f : Nat) (hf : enters Try.prog f = true) (hp : ∀ a, a ∈ xs → pureF Try.prog f [.p (insP a)] (.p (.bool (p a)))) :
    pureF Try.prog 64 [.p (.list 3 (cP xs)), .p (.fn (.func f))] (.p (.bool (xs.any p))) := by
  refine pureF_of f64_ok fun H => ?_
  (conv => whnf)
  refine CallVC.pureF (IndexFuncI_spec xs hx p f hf hp) rfl ?_
  exact ⟨by rw [← idxF_any], rfl⟩

/-- The program's answer is the document's. -/
theorem codeCheck_spec (κ : Int) (T : List ByteArray) (C : List Ins) (S : Int) (hTl : T.length ≤ 1000000000) (hCl : C.length ≤ 1000000000) : pureF Try.prog 47 [.p (encPg κ T C S)] (.p (.int .i64 (errP κ T C S))) := by
  refine pureF_nil_of (ps := [encPg κ T C S]) f47_ok (.int _ _) ?_
  have hT := tP_len T
  have hC := cP_len C
  have hrS := right_code_spec S true
  have hany : pureF Try.prog 64 [.p (.list 3 (cP C)), .p (.fn (.func 65))] (.p (.bool (!C.all insOk))) := by
    have h1 := ContainsFuncI_spec C (by omega) (fun x => !insOk x) 65 (by kernel_rfl) fun a _ => codeWrong_spec a
    have h2 : (C.any fun x => !insOk x) = !C.all insOk := by rw [List.not_all_eq_any_not]
    rw [h2] at h1
    exact h1
  have hrf : rightB S true = fitsB S := by
    rw [rightB, fitsB, Bool.eq_iff_iff]
    simp
    omega
  rw [hrf] at hrS
  (conv => whnf)
  refine CallVC.inline f45_ok ?_
  (conv => whnf)
  by_cases hlim : 32768 < C.length ∨ 8192 < T.length
  · have e : errP κ T C S = 3 := by rw [errP, if_pos hlim]
    rw [e]
    refine splitB_dec (fun h => ?_) (fun h => ?_)
    · (conv => whnf)
      refine splitB_t (decide_eq_true h) ?_
      exact ⟨rfl, rfl⟩
    · (conv => whnf)
      refine splitB_t (decide_eq_true (by omega)) ?_
      exact ⟨rfl, rfl⟩
  · refine splitB_f (decide_eq_false (by omega)) ?_
    (conv => whnf)
    refine splitB_f (decide_eq_false (by omega)) ?_
    have bad : ((κ ≠ 1 ∧ κ ≠ 2) ∨ fitsB S = false ∨ C.all insOk = false) → errP κ T C S = 210 := fun h => by rw [errP, if_neg hlim, if_pos h]
    rcases (show κ = 1 ∨ κ = 2 ∨ (κ ≠ 1 ∧ κ ≠ 2) by omega) with hk | hk | ⟨n1, n2⟩
    · subst hk
      cases hS : fitsB S with
      | false =>
        rw [hS] at hrS
        repeat' ((conv => whnf); first | refine CallVC.pureF hrS rfl ?_ | refine splitB_t rfl ?_ | refine splitB_f rfl ?_)
        exact ⟨by rw [bad (.inr (.inl hS))], rfl⟩
      | true =>
        rw [hS] at hrS
        have hS' : 0 ≤ S ∧ S ≤ 2147483647 := by simpa [fitsB] using hS
        cases hall : C.all insOk with
        | false =>
          rw [hall] at hany
          repeat' ((conv => whnf); first | refine CallVC.pureF hrS rfl ?_ | refine CallVC.pureF hany rfl ?_ | refine splitB_t rfl ?_ | refine splitB_f rfl ?_)
          exact ⟨by rw [bad (.inr (.inr hall))], rfl⟩
        | true =>
          have e1 : errP 1 T C S = if 1048576 < hdSz T C S + codeSz C + txtSz T then 3 else 0 := by
            rw [errP, if_neg hlim, if_neg (by rw [hS, hall]; simp)]
          rw [hall] at hany
          repeat' ((conv => whnf); first | refine CallVC.pureF hrS rfl ?_ | refine CallVC.pureF hany rfl ?_ | refine splitB_t rfl ?_ | refine splitB_f rfl ?_)
          (conv => whnf)
          refine write_in 1 T C S (by omega) (by omega) hS' hall _ fun m g ys lo' hm hiff hle => ?_
          (conv => whnf)
          refine ⟨atK_in _ _ _ _ hm rfl, ?_⟩
          (conv => whnf)
          refine splitB_dec (fun h => ?_) (fun h => ?_)
          · exact ⟨by rw [e1, if_pos (hiff.1 h)], rfl⟩
          · exact ⟨by rw [e1, if_neg fun h2 => h (hiff.2 h2)], rfl⟩
    · subst hk
      cases hS : fitsB S with
      | false =>
        rw [hS] at hrS
        repeat' ((conv => whnf); first | refine CallVC.pureF hrS rfl ?_ | refine splitB_t rfl ?_ | refine splitB_f rfl ?_)
        exact ⟨by rw [bad (.inr (.inl hS))], rfl⟩
      | true =>
        rw [hS] at hrS
        have hS' : 0 ≤ S ∧ S ≤ 2147483647 := by simpa [fitsB] using hS
        cases hall : C.all insOk with
        | false =>
          rw [hall] at hany
          repeat' ((conv => whnf); first | refine CallVC.pureF hrS rfl ?_ | refine CallVC.pureF hany rfl ?_ | refine splitB_t rfl ?_ | refine splitB_f rfl ?_)
          exact ⟨by rw [bad (.inr (.inr hall))], rfl⟩
        | true =>
          have e1 : errP 2 T C S = if 1048576 < hdSz T C S + codeSz C + txtSz T then 3 else 0 := by
            rw [errP, if_neg hlim, if_neg (by rw [hS, hall]; simp)]
          rw [hall] at hany
          repeat' ((conv => whnf); first | refine CallVC.pureF hrS rfl ?_ | refine CallVC.pureF hany rfl ?_ | refine splitB_t rfl ?_ | refine splitB_f rfl ?_)
          (conv => whnf)
          refine write_in 2 T C S (by omega) (by omega) hS' hall _ fun m g ys lo' hm hiff hle => ?_
          (conv => whnf)
          refine ⟨atK_in _ _ _ _ hm rfl, ?_⟩
          (conv => whnf)
          refine splitB_dec (fun h => ?_) (fun h => ?_)
          · exact ⟨by rw [e1, if_pos (hiff.1 h)], rfl⟩
          · exact ⟨by rw [e1, if_neg fun h2 => h (hiff.2 h2)], rfl⟩
    · have e := bad (.inl ⟨n1, n2⟩)
      rw [e]
      repeat' ((conv => whnf); first | refine splitB_t (bne_iff_ne.2 n1) ?_ | refine splitB_t (bne_iff_ne.2 n2) ?_ | refine splitB_t rfl ?_ | refine splitB_f rfl ?_)
      all_goals (try (conv => whnf))
      all_goals exact ⟨rfl, rfl⟩

end Go.Proofs.Ythmlninecfjjgaa.AD

namespace Go.Proofs.Ythmlninecfjjgaa.AD
open Go.Proofs
set_option linter.unusedVariables false
set_option linter.unusedSimpArgs false
set_option maxRecDepth 100000

/-- The same so far, or beyond a limit for good. -/
def Big (b : Bs) : Prop := 32768 < b.C.length ∨ 8192 < b.T.length
def Sim (b : Bs) (w : Ws) : Prop := (w.o = false ∧ b.T = w.T ∧ b.C = w.C ∧ b.S = w.S ∧ b.h = w.h) ∨ (w.o = true ∧ Big b)

theorem putB_big (x : Ins) {b : Bs} (h : Big b) : Big (putB x b) := by
  rcases h with h | h
  · refine .inl ?_
    have e : (putB x b).C = b.C := by simp only [putB]; rw [if_neg (by omega)]
    rw [e]; exact h
  · exact .inr h
theorem namedB_big (o : Int) (s : ByteArray) {b : Bs} (h : Big b) : Big (namedB o s b) := by
  rw [namedB]
  split
  · exact putB_big _ h
  · refine putB_big _ ?_
    rcases h with h | h
    · exact .inl h
    · refine .inr ?_
      simp only [List.length_append]
      omega
theorem sim_put (x : Ins) {b : Bs} {w : Ws} (h : Sim b w) : Sim (putB x b) (putW x w) := by
  rcases h with ⟨h0, h1, h2, h3, h4⟩ | ⟨h0, h1⟩
  · by_cases hc : 32768 < w.C.length
    · refine .inr ⟨by rw [putW, if_pos (.inr hc)], putB_big _ (.inl (by rw [h2]; exact hc))⟩
    · refine .inl ?_
      rw [putW, if_neg (by rw [h0]; simp; omega)]
      refine ⟨h0, h1, ?_, ?_, ?_⟩
      · simp only [putB]; rw [if_pos (by rw [h2]; omega), h2]
      · simp only [putB, h3, h4]
      · simp only [putB, h4]
  · exact .inr ⟨by rw [putW, if_pos (.inl h0)], putB_big _ h1⟩
theorem sim_named (o : Int) (s : ByteArray) {b : Bs} {w : Ws} (h : Sim b w) : Sim (namedB o s b) (namedW o s w) := by
  rcases h with ⟨h0, h1, h2, h3, h4⟩ | ⟨h0, h1⟩
  · rw [namedB, namedW, if_neg (by rw [h0]; simp), h1]
    cases tix s w.T with
    | some i => exact sim_put _ (.inl ⟨h0, h1, h2, h3, h4⟩)
    | none =>
      simp only []
      by_cases ht : 8192 < w.T.length
      · rw [if_pos ht]
        refine .inr ⟨rfl, putB_big _ (.inr ?_)⟩
        simp only [List.length_append]
        omega
      · rw [if_neg ht]
        exact sim_put _ (.inl ⟨h0, by simp only [], h2, h3, h4⟩)
  · rw [namedW, if_pos h0]
    exact .inr ⟨h0, namedB_big _ _ h1⟩

theorem licB_big : (∀ e b, Big b → Big (licB e b)) ∧ ∀ l b, Big b → Big (licsB l b) := by
  have main : ∀ l : List Li, (∀ a, a ∈ l → ∀ b, Big b → Big (licB a b)) → ∀ b, Big b → Big (licsB l b) := by
    intro l
    induction l with
    | nil => intro _ b h; exact h
    | cons a r ih => intro h b hb; exact ih (fun c hc => h c (by simp [hc])) _ (h a (by simp) b hb)
  have one : ∀ e b, Big b → Big (licB e b) := by
    intro e
    induction e using Li.ind with
    | h o t k xs ih =>
      intro b hb
      have h1 := main xs ih b hb
      simp only [licB]
      (repeat' split) <;> first | exact namedB_big _ _ hb | exact putB_big _ h1
  exact ⟨one, fun l => main l fun a _ => one a⟩

theorem sim_lic (e : Li) : chkLi e = true → ∀ b w, Sim b w → Sim (licB e b) (licW e w) := by
  induction e using Li.ind with
  | h o t k xs ih =>
    intro hc b w h
    simp only [licB, licW]
    simp only [chkLi] at hc
    by_cases h1 : o = 1
    · rw [if_pos h1, if_pos h1]; exact sim_named _ _ h
    · rw [if_neg h1] at hc
      simp only [Bool.and_eq_true] at hc
      obtain ⟨⟨hc1, _⟩, hc2⟩ := hc
      rw [if_neg h1, if_neg h1]
      have main : ∀ l : List Li, (∀ a, a ∈ l → a ∈ xs) → chkLs l = true → ∀ b w, Sim b w → Sim (licsB l b) (licsW l w) := by
        intro l
        induction l with
        | nil => intro _ _ b w h; exact h
        | cons a r ihr =>
          intro hl hcl b w h
          simp only [chkLs, Bool.and_eq_true] at hcl
          simp only [licsB, licsW]
          by_cases hov : w.o = true
          · rw [if_pos hov]
            rcases h with ⟨h0, _⟩ | ⟨_, hb⟩
            · rw [h0] at hov; cases hov
            · exact .inr ⟨hov, licB_big.2 r _ (licB_big.1 a b hb)⟩
          · rw [if_neg hov]
            exact ihr (fun c hcc => hl c (by simp [hcc])) hcl.2 _ _ (ih a (hl a (by simp)) hcl.1 b w h)
      have h2 := main xs (fun _ h => h) hc2 b w h
      by_cases g2 : o = 2
      · rw [if_pos g2, if_pos g2]; exact sim_put _ h2
      · rw [if_neg g2, if_neg g2]
        by_cases g3 : o = 3
        · rw [if_pos g3, if_pos g3]; exact sim_put _ h2
        · rw [if_neg g3, if_neg g3]
          have g4 : o = 4 := by
            rw [if_neg (by omega)] at hc1
            by_cases g4 : o = 4
            · exact g4
            · rw [if_neg g4] at hc1; cases hc1
          rw [if_pos g4]
          exact sim_put _ h2

/-! ### programs compared -/
theorem eqCells_ins (x : Ins) : eqCells [.int .u8, .int .i64, .int .i64] [.int .u8 x.op, .int .i64 x.a, .int .i64 x.b] [.int .u8 x.op, .int .i64 x.a, .int .i64 x.b] = some true := by
  simp [eqCells]
theorem SameProgram_spec (κ : Int) (T : List ByteArray) (C : List Ins) (S : Int) (hTl : T.length ≤ 1000000000) (hCl : C.length ≤ 1000000000) : pureF Try.prog 13 [.p (encPg κ T C S), .p (encPg κ T C S)] (.p (.bool true)) := by
  have hT := tP_len T
  have hC := cP_len C
  refine pureF_of f13_ok fun H => ?_
  repeat' ((conv => whnf); first | refine splitB_t rfl ?_ | refine splitB_f rfl ?_ | refine splitB_f (by simp) ?_)
  (conv => whnf)
  intro R hR
  have key : ∀ (rest : List ByteArray) (i : Nat), T.drop i = rest → R [(2, .ref (.l 0) 0), (3, .ref (.l 1) 0), (5, .p (.int .i64 i))] H [.cells [.p (.int .u8 κ), .p (.list 1 (tP T)), .p (.list 3 (cP C)), .p (.int .i64 S)], .cells [.p (.int .u8 κ), .p (.list 1 (tP T)), .p (.list 3 (cP C)), .p (.int .i64 S)]] := by
    intro rest
    induction rest with
    | nil =>
      intro i hd
      have hl := drop_nil hd
      refine hR _ _ _ ?_
      (conv => whnf)
      refine splitB_f (decide_eq_false (by omega)) ?_
      (conv => whnf)
      intro R2 hR2
      have key2 : ∀ (rest : List Ins) (i : Nat), C.drop i = rest → R2 [(2, .ref (.l 0) 0), (3, .ref (.l 1) 0), (6, .p (.int .i64 i))] H [.cells [.p (.int .u8 κ), .p (.list 1 (tP T)), .p (.list 3 (cP C)), .p (.int .i64 S)], .cells [.p (.int .u8 κ), .p (.list 1 (tP T)), .p (.list 3 (cP C)), .p (.int .i64 S)]] := by
        intro rest
        induction rest with
        | nil =>
          intro i hd
          have hl := drop_nil hd
          refine hR2 _ _ _ ?_
          (conv => whnf)
          refine splitB_f (decide_eq_false (by omega)) ?_
          exact ⟨rfl, rfl⟩
        | cons x r ihr =>
          intro i hd
          obtain ⟨hg, hd', hi⟩ := drop_cons hd
          refine hR2 _ _ _ ?_
          (conv => whnf)
          refine splitB_t (decide_eq_true (by omega)) ?_
          (conv => whnf)
          refine ⟨rfl, insP x, ⟨by omega, cP_get hg⟩, ?_⟩
          (conv => whnf)
          refine ⟨rfl, insP x, ⟨by omega, cP_get hg⟩, ?_⟩
          (conv => whnf)
          refine ⟨true, eqCells_ins x, ?_⟩
          (conv => whnf)
          refine splitB_f rfl ?_
          (conv => whnf)
          rw [IntWalk.i64_in (i + 1) (by omega)]
          exact ihr (i + 1) hd'
      exact key2 C 0 rfl
    | cons t r ihr =>
      intro i hd
      obtain ⟨hg, hd', hi⟩ := drop_cons hd
      refine hR _ _ _ ?_
      (conv => whnf)
      refine splitB_t (decide_eq_true (by omega)) ?_
      (conv => whnf)
      refine ⟨rfl, .str t, ⟨by omega, tP_get hg⟩, ?_⟩
      (conv => whnf)
      refine ⟨rfl, .str t, ⟨by omega, tP_get hg⟩, ?_⟩
      (conv => whnf)
      refine splitB_f (by simp) ?_
      (conv => whnf)
      rw [IntWalk.i64_in (i + 1) (by omega)]
      exact ihr (i + 1) hd'
  exact key T 0 rfl

end Go.Proofs.Ythmlninecfjjgaa.AD

namespace Go.Proofs.Ythmlninecfjjgaa.AD
open Go.Proofs
set_option linter.unusedVariables false
set_option linter.unusedSimpArgs false
set_option maxRecDepth 100000

mutual
def ew : Ex → Int → Int
  | .mk _ t xs, most => ews xs most (lcap t most)
def ews : List Ex → Int → Int → Int
  | [], most, n => n
  | a :: r, most, n => if n ≤ most then ews r most (n + ew a (most - n)) else n
end
mutual
def ecnt : Ex → Int
  | .mk _ _ xs => 1 + ecnts xs
def ecnts : List Ex → Int
  | [] => 0
  | a :: r => ecnt a + ecnts r
end

theorem ews_le : (∀ e most, 0 ≤ most → 1 ≤ ew e most ∧ ew e most ≤ most + 1) ∧ ∀ l most n, 0 ≤ most → 1 ≤ n → n ≤ most + 1 → n ≤ ews l most n ∧ ews l most n ≤ most + 1 := by
  have main : ∀ l, (∀ a, a ∈ l → ∀ most, 0 ≤ most → 1 ≤ ew a most ∧ ew a most ≤ most + 1) → ∀ most n, 0 ≤ most → 1 ≤ n → n ≤ most + 1 → n ≤ ews l most n ∧ ews l most n ≤ most + 1 := by
    intro l
    induction l with
    | nil => intro _ most n _ _ _; simp only [ews]; omega
    | cons a r ih =>
      intro hl most n h0 h1 h2
      simp only [ews]
      split
      · have := hl a (by simp) (most - n) (by omega)
        have := ih (fun b hb => hl b (by simp [hb])) most (n + ew a (most - n)) h0 (by omega) (by omega)
        omega
      · omega
  have one : ∀ e most, 0 ≤ most → 1 ≤ ew e most ∧ ew e most ≤ most + 1 := by
    intro e
    induction e using Ex.ind with
    | h o t xs ih =>
      intro most h0
      simp only [ew]
      have hc : 1 ≤ lcap t most ∧ lcap t most ≤ most + 1 := by simp only [lcap]; split <;> omega
      have := main xs ih most (lcap t most) h0 (by omega) (by omega)
      omega
  exact ⟨one, fun l => main l fun a _ => one a⟩

/-- No row and no text is long. -/
inductive FewE : Ex → Prop
  | mk (o : Int) (t : ByteArray) (xs : List Ex) : t.size ≤ 20000 → xs.length ≤ 20000 → (∀ a, a ∈ xs → FewE a) → FewE (.mk o t xs)

theorem fewE_of (e : Ex) : ∀ most : Int, 0 ≤ most → most ≤ 20000 → ew e most ≤ most → FewE e ∧ ecnt e ≤ ew e most := by
  induction e using Ex.ind with
  | h o t xs ih =>
    intro most h0 hm h
    have main : ∀ (l : List Ex) (n : Int), (∀ a, a ∈ l → a ∈ xs) → 1 ≤ n → n ≤ most + 1 → ews l most n ≤ most → n + l.length ≤ most ∧ (∀ a, a ∈ l → FewE a) ∧ n + ecnts l ≤ ews l most n := by
      intro l
      induction l with
      | nil => intro n _ _ _ h; simp only [ews] at h; exact ⟨by simpa using h, (fun a ha => by cases ha), by simp [ecnts, ews]⟩
      | cons a r ihr =>
        intro n hl h1 h2 h
        simp only [ews] at h
        split at h
        · rename_i h3
          have h4 := ews_le.1 a (most - n) (by omega)
          have h5 := ews_le.2 r most (n + ew a (most - n)) h0 (by omega) (by omega)
          obtain ⟨g1, g2⟩ := ih a (hl a (by simp)) (most - n) (by omega) (by omega) (by omega)
          obtain ⟨g3, g4, g5⟩ := ihr _ (fun b hb => hl b (by simp [hb])) (by omega) (by omega) h
          refine ⟨by simp; omega, fun b hb => ?_, ?_⟩
          · cases hb with
            | head => exact g1
            | tail _ hb => exact g4 b hb
          · simp only [ecnts, ews, if_pos h3]; omega
        · omega
    simp only [ew] at h
    have hc : 1 ≤ lcap t most ∧ lcap t most ≤ most + 1 := by simp only [lcap]; split <;> omega
    obtain ⟨g1, g2, g3⟩ := main xs (lcap t most) (fun _ h => h) hc.1 hc.2 h
    have ht : t.size ≤ 20000 := by
      have hx := ews_le.2 xs most (lcap t most) h0 hc.1 hc.2
      have h9 : lcap t most ≤ most := by omega
      simp only [lcap] at h9
      split at h9 <;> omega
    refine ⟨.mk o t xs ht (by omega) g2, ?_⟩
    simp only [ecnt, ew]
    omega

theorem Weight_spec (e : Ex) : Fits e → ∀ most : Int, 0 ≤ most → most ≤ 4611686018427387904 → pureF Try.prog 34 [.p (enc e), .p (.int .i64 most)] (.p (.int .i64 (ew e most))) := by
  induction e using Ex.ind with
  | h o t xs ih =>
    intro hf most h1 h2
    cases hf with
    | mk _ _ _ ho ht hx hxs =>
    have he := encs_len xs
    have hc : 1 ≤ lcap t most ∧ lcap t most ≤ most + 1 := by simp only [lcap]; split <;> omega
    refine pureF_of f34_ok fun H => ?_
    (conv => whnf)
    rw [IntWalk.i64_in _ (by have := hc; simp only [lcap] at this; exact ⟨by omega, by omega⟩)]
    intro R hR
    have key : ∀ (rest : List Ex) (i : Nat) (n : Int), xs.drop i = rest → 1 ≤ n → n ≤ most + 1 → ews rest most n = ew (.mk o t xs) most → R [(1, .p (.int .i64 most)), (2, .ref (.l 0) 0), (5, .p (.int .i64 n)), (6, .p (.int .i64 i))] H [.cells [.p (.int .u8 o), .p (.str t), .p (.list 3 (encs xs))]] := by
      intro rest
      induction rest with
      | nil =>
        intro i n hd hn hb hs
        have hl := drop_nil hd
        refine hR _ _ _ ?_
        (conv => whnf)
        refine splitB_f (decide_eq_false (by omega)) ?_
        (conv => whnf)
        refine splitB_f rfl ?_
        exact ⟨by rw [← hs]; rfl, rfl⟩
      | cons a r ihr =>
        intro i n hd hn hb hs
        obtain ⟨hg, hd', hi⟩ := drop_cons hd
        have iha := ih a (List.mem_of_getElem? hg) (hxs a (List.mem_of_getElem? hg))
        have hle := ews_le.1 a (most - n)
        refine hR _ _ _ ?_
        (conv => whnf)
        refine splitB_t (decide_eq_true (by omega)) ?_
        (conv => whnf)
        refine splitB_dec (fun h3 => ?_) (fun h3 => ?_)
        · obtain ⟨o', t', xs'⟩ := a
          have hle := hle (by omega)
          (conv => whnf)
          refine ⟨rfl, enc (.mk o' t' xs'), ⟨by omega, encs_get hg⟩, ?_⟩
          (conv => whnf)
          rw [IntWalk.i64_in (most - n) (by omega)]
          refine CallVC.pureF (iha (most - n) (by omega) (by omega)) rfl ?_
          (conv => whnf)
          rw [IntWalk.i64_in _ (by omega), IntWalk.i64_in _ (by omega)]
          exact ihr (i + 1) _ hd' (by omega) (by omega) (by rw [← hs]; simp only [ews, if_pos h3])
        · exact ⟨by rw [← hs]; simp only [ews, if_neg h3], rfl⟩
    exact key xs 0 (lcap t most) rfl hc.1 hc.2 rfl


/-- What is reached behind a test and a value. -/
def wTV (t v : Ex) (most n : Int) : Int :=
  if n + 1 + ew t (most - n) ≤ most then n + 1 + ew t (most - n) + ew v (most - (n + 1 + ew t (most - n))) else n + 1 + ew t (most - n)
mutual
def wC : Cl → Int → Int → Int
  | .mk _ t v b, most, n => if wTV t v most n ≤ most then wTV t v most n + wCs b (most - wTV t v most n) 0 else wTV t v most n
def wCs : List Cl → Int → Int → Int
  | [], most, n => n
  | c :: r, most, n => if n ≤ most then wCs r most (wC c most n) else n
end

theorem wTV_le (t v : Ex) (most n : Int) (h : n ≤ most) : n + 2 ≤ wTV t v most n ∧ wTV t v most n ≤ most + 2 := by
  have h1 := ews_le.1 t (most - n) (by omega)
  simp only [wTV]
  split
  · have h2 := ews_le.1 v (most - (n + 1 + ew t (most - n))) (by omega)
    omega
  · omega

theorem wCs_ge : (∀ c most n, n ≤ most → n + 2 ≤ wC c most n ∧ wC c most n ≤ most + 2) ∧ ∀ l most n, n ≤ wCs l most n ∧ (wCs l most n ≤ n ∨ wCs l most n ≤ most + 2) := by
  have main : ∀ l : List Cl, (∀ c, c ∈ l → ∀ most n, n ≤ most → n + 2 ≤ wC c most n ∧ wC c most n ≤ most + 2) → ∀ most n, n ≤ wCs l most n ∧ (wCs l most n ≤ n ∨ wCs l most n ≤ most + 2) := by
    intro l
    induction l with
    | nil => intro _ most n; simp only [wCs]; omega
    | cons c r ih =>
      intro h most n
      simp only [wCs]
      split
      · rename_i hn
        have h1 := h c (by simp) most n hn
        have h2 := ih (fun c hc => h c (by simp [hc])) most (wC c most n)
        omega
      · omega
  have one : ∀ c most n, n ≤ most → n + 2 ≤ wC c most n ∧ wC c most n ≤ most + 2 := by
    intro c
    induction c using Cl.ind with
    | h k t v b ih =>
      intro most n hn
      have h1 := wTV_le t v most n hn
      have h2 := main b ih (most - wTV t v most n) 0
      simp only [wC]
      split <;> omega
  exact ⟨one, fun l => main l fun c _ => one c⟩

theorem Weights_ind (l : List Cl) (hl : (l.length : Int) ≤ 9223372036854775807) (hf : ∀ c, c ∈ l → FitsC c) (ih : ∀ k t v b, Cl.mk k t v b ∈ l → ∀ most : Int, 0 ≤ most → most ≤ 4611686018427387904 → pureF Try.prog 16 [.p (.list 8 (encCs b)), .p (.int .i64 most)] (.p (.int .i64 (wCs b most 0)))) (most : Int) (h1 : 0 ≤ most) (h2 : most ≤ 4611686018427387904) :
    pureF Try.prog 16 [.p (.list 8 (encCs l)), .p (.int .i64 most)] (.p (.int .i64 (wCs l most 0))) := by
  have he := encCs_len l
  refine pureF_of f16_ok fun H => ?_
  (conv => whnf)
  intro R hR
  have key : ∀ (rest : List Cl) (i : Nat) (n : Int), l.drop i = rest → (i : Int) ≤ n → n ≤ most + 2 → wCs rest most n = wCs l most 0 → R [(0, .p (.list 8 (encCs l))), (1, .p (.int .i64 most)), (5, .p (.int .i64 n)), (6, .p (.int .i64 i))] H [] := by
    intro rest
    induction rest with
    | nil =>
      intro i n hd hn hb hs
      have hl := drop_nil hd
      refine hR _ _ _ ?_
      (conv => whnf)
      refine splitB_f (decide_eq_false (by omega)) ?_
      exact ⟨by rw [← hs]; rfl, rfl⟩
    | cons c r ihr =>
      intro i n hd hn hb hs
      obtain ⟨hg, hd', hi⟩ := drop_cons hd
      refine hR _ _ _ ?_
      (conv => whnf)
      refine splitB_t (decide_eq_true (by omega)) ?_
      (conv => whnf)
      refine splitB_dec (fun h3 => ?_) (fun h3 => ?_)
      · have hmem := List.mem_of_getElem? hg
        have hrest : wCs (c :: r) most n = wCs r most (wC c most n) := by simp only [wCs, if_pos h3]
        have hlim := wCs_ge.1 c most n h3
        obtain ⟨k, ⟨o, t, xs⟩, ⟨o2, t2, xs2⟩, b⟩ := c
        have ihc := ih _ _ _ _ hmem
        have hfc := hf _ hmem
        have hst := Weight_spec (.mk o t xs) (by cases hfc; assumption)
        have hsv := Weight_spec (.mk o2 t2 xs2) (by cases hfc; assumption)
        have g1 := ews_le.1 (.mk o t xs) (most - n) (by omega)
        have hC : wC (.mk k (.mk o t xs) (.mk o2 t2 xs2) b) most n = if wTV (.mk o t xs) (.mk o2 t2 xs2) most n ≤ most then wTV (.mk o t xs) (.mk o2 t2 xs2) most n + wCs b (most - wTV (.mk o t xs) (.mk o2 t2 xs2) most n) 0 else wTV (.mk o t xs) (.mk o2 t2 xs2) most n := rfl
        have hTVle := wTV_le (.mk o t xs) (.mk o2 t2 xs2) most n h3
        generalize hTV : wTV (.mk o t xs) (.mk o2 t2 xs2) most n = tv at hC hTVle
        (conv => whnf)
        refine ⟨rfl, encC (.mk k (.mk o t xs) (.mk o2 t2 xs2) b), ⟨by omega, encCs_get hg⟩, ?_⟩
        (conv => whnf)
        rw [IntWalk.i64_in (most - n) (by omega)]
        refine CallVC.pureF (hst (most - n) (by omega) (by omega)) rfl ?_
        generalize hn1 : ew (.mk o t xs) (most - n) = s1 at g1
        have e1 : tv = if n + 1 + s1 ≤ most then n + 1 + s1 + ew (.mk o2 t2 xs2) (most - (n + 1 + s1)) else n + 1 + s1 := by rw [← hTV, wTV, hn1]
        (conv => whnf)
        rw [IntWalk.i64_in (n + 1) (by omega), IntWalk.i64_in (n + 1 + s1) (by omega)]
        refine splitB_dec (fun h4 => ?_) (fun h4 => ?_)
        · have g2 := ews_le.1 (.mk o2 t2 xs2) (most - (n + 1 + s1)) (by omega)
          rw [if_pos h4] at e1
          (conv => whnf)
          refine ⟨rfl, encC (.mk k (.mk o t xs) (.mk o2 t2 xs2) b), ⟨by omega, encCs_get hg⟩, ?_⟩
          (conv => whnf)
          rw [IntWalk.i64_in (most - (n + 1 + s1)) (by omega)]
          refine CallVC.pureF (hsv (most - (n + 1 + s1)) (by omega) (by omega)) rfl ?_
          generalize hn2 : ew (.mk o2 t2 xs2) (most - (n + 1 + s1)) = s2 at g2 e1
          (conv => whnf)
          rw [IntWalk.i64_in (n + 1 + s1 + s2) (by omega), ← e1]
          refine splitB_dec (fun h5 => ?_) (fun h5 => ?_)
          · have g3 := wCs_ge.2 b (most - tv) 0
            rw [if_pos h5] at hC
            (conv => whnf)
            refine ⟨rfl, encC (.mk k (.mk o t xs) (.mk o2 t2 xs2) b), ⟨by omega, encCs_get hg⟩, ?_⟩
            (conv => whnf)
            rw [IntWalk.i64_in (most - tv) (by omega)]
            refine CallVC.pureF (ihc (most - tv) (by omega) (by omega)) rfl ?_
            (conv => whnf)
            rw [IntWalk.i64_in _ (by omega), IntWalk.i64_in _ (by omega), ← hC]
            exact ihr (i + 1) _ hd' (by omega) (by omega) (by rw [← hs, hrest])
          · rw [if_neg h5] at hC
            (conv => whnf)
            rw [IntWalk.i64_in _ (by omega), ← hC]
            exact ihr (i + 1) _ hd' (by omega) (by omega) (by rw [← hs, hrest])
        · rw [if_neg h4] at e1
          (conv => whnf)
          rw [← e1]
          refine splitB_f (decide_eq_false (by omega)) ?_
          rw [if_neg (by omega)] at hC
          (conv => whnf)
          rw [IntWalk.i64_in _ (by omega), ← hC]
          exact ihr (i + 1) _ hd' (by omega) (by omega) (by rw [← hs, hrest])
      · exact ⟨by rw [← hs]; simp only [wCs, if_neg h3], rfl⟩
  exact key l 0 0 rfl (by omega) (by omega) rfl

theorem Weights_all (c : Cl) : ∀ k t v b, c = .mk k t v b → FitsC c → ∀ most : Int, 0 ≤ most → most ≤ 4611686018427387904 → pureF Try.prog 16 [.p (.list 8 (encCs b)), .p (.int .i64 most)] (.p (.int .i64 (wCs b most 0))) := by
  induction c using Cl.ind with
  | h k t v b ih =>
    intro k' t' v' b' e hf most h1 h2
    cases e
    cases hf with
    | mk _ _ _ _ _ _ _ hb1 hb2 => exact Weights_ind b hb1 hb2 (fun k2 t2 v2 b2 hm => ih _ hm k2 t2 v2 b2 rfl (hb2 _ hm)) most h1 h2
theorem Weights_spec (l : List Cl) (hl : (l.length : Int) ≤ 9223372036854775807) (hf : ∀ c, c ∈ l → FitsC c) (most : Int) (h1 : 0 ≤ most) (h2 : most ≤ 4611686018427387904) : pureF Try.prog 16 [.p (.list 8 (encCs l)), .p (.int .i64 most)] (.p (.int .i64 (wCs l most 0))) :=
  Weights_ind l hl hf (fun k t v b hm => Weights_all _ k t v b rfl (hf _ hm)) most h1 h2
mutual
def ccnt : Cl → Int
  | .mk _ t v b => 1 + ecnt t + ecnt v + ccnts b
def ccnts : List Cl → Int
  | [] => 0
  | c :: r => ccnt c + ccnts r
end
/-- No row and no text is long. -/
inductive FewD : Cl → Prop
  | mk (k : Int) (t v : Ex) (b : List Cl) : FewE t → FewE v → b.length ≤ 20000 → (∀ c, c ∈ b → FewD c) → FewD (.mk k t v b)

theorem FewE.few {e : Ex} (h : FewE e) : Few e := by
  induction h with
  | mk o t xs _ h _ ih => exact .mk o t xs h ih
theorem FewD.fewC {c : Cl} (h : FewD c) : FewC c := by
  induction h with
  | mk k t v b h1 h2 h3 _ ih => exact .mk k t v b h1.few h2.few h3 ih

theorem fewD_all : ∀ c : Cl, ∀ most n : Int, most ≤ 20000 → 0 ≤ n → n ≤ most → wC c most n ≤ most → FewD c ∧ n + ccnt c ≤ wC c most n := by
  intro c
  induction c using Cl.ind with
  | h k t v b ih =>
    intro most n hm h0 hn h
    have main : ∀ (l : List Cl) (m n : Int), (∀ c, c ∈ l → c ∈ b) → m ≤ 20000 → 0 ≤ n → wCs l m n ≤ m → n + l.length ≤ m ∧ (∀ c, c ∈ l → FewD c) ∧ n + ccnts l ≤ wCs l m n := by
      intro l
      induction l with
      | nil => intro m n _ _ _ h; simp only [wCs] at h; exact ⟨by simpa using h, (fun c hc => by cases hc), by simp [ccnts, wCs]⟩
      | cons c r ihr =>
        intro m n hl hm h0 h
        simp only [wCs] at h
        split at h
        · rename_i h2
          have h3 := wCs_ge.1 c m n h2
          have h4 := wCs_ge.2 r m (wC c m n)
          obtain ⟨h6, h7, h8⟩ := ihr m _ (fun d hd => hl d (by simp [hd])) hm (by omega) h
          obtain ⟨k1, k2⟩ := ih c (hl c (by simp)) m n hm h0 h2 (by omega)
          refine ⟨by simp; omega, fun d hd => ?_, ?_⟩
          · cases hd with
            | head => exact k1
            | tail _ hd => exact h7 d hd
          · simp only [ccnts, wCs, if_pos h2]; omega
        · omega
    have h1 := wTV_le t v most n hn
    simp only [wC] at h ⊢
    split at h
    · rename_i h2
      obtain ⟨h3, h4, h8⟩ := main b (most - wTV t v most n) 0 (fun c hc => hc) (by omega) (by omega) (by omega)
      have g1 := ews_le.1 t (most - n) (by omega)
      by_cases h5 : n + 1 + ew t (most - n) ≤ most
      · have e1 : wTV t v most n = n + 1 + ew t (most - n) + ew v (most - (n + 1 + ew t (most - n))) := by rw [wTV, if_pos h5]
        have g2 := ews_le.1 v (most - (n + 1 + ew t (most - n))) (by omega)
        obtain ⟨p1, p2⟩ := fewE_of t (most - n) (by omega) (by omega) (by omega)
        obtain ⟨q1, q2⟩ := fewE_of v (most - (n + 1 + ew t (most - n))) (by omega) (by omega) (by omega)
        refine ⟨.mk k t v b p1 q1 (by omega) h4, ?_⟩
        rw [if_pos h2]
        simp only [ccnt]
        omega
      · have e1 : wTV t v most n = n + 1 + ew t (most - n) := by rw [wTV, if_neg h5]
        omega
    · omega

theorem fewDs_of (l : List Cl) (m : Int) (hm : m ≤ 20000) (h : wCs l m 0 ≤ m) : l.length ≤ 20000 ∧ (∀ c, c ∈ l → FewD c) ∧ ccnts l ≤ m := by
  have main : ∀ (l : List Cl) (n : Int), 0 ≤ n → wCs l m n ≤ m → n + l.length ≤ m ∧ (∀ c, c ∈ l → FewD c) ∧ n + ccnts l ≤ wCs l m n := by
    intro l
    induction l with
    | nil => intro n _ h; simp only [wCs] at h; exact ⟨by simpa using h, (fun c hc => by cases hc), by simp [ccnts, wCs]⟩
    | cons c r ihr =>
      intro n h0 h
      simp only [wCs] at h
      split at h
      · rename_i h2
        have h3 := wCs_ge.1 c m n h2
        have h4 := wCs_ge.2 r m (wC c m n)
        obtain ⟨h6, h7, h8⟩ := ihr _ (by omega) h
        obtain ⟨k1, k2⟩ := fewD_all c m n hm h0 h2 (by omega)
        refine ⟨by simp; omega, fun d hd => ?_, ?_⟩
        · cases hd with
          | head => exact k1
          | tail _ hd => exact h7 d hd
        · simp only [ccnts, wCs, if_pos h2]; omega
      · omega
  obtain ⟨h1, h2, h3⟩ := main l 0 (by omega) h
  exact ⟨by omega, h2, by omega⟩

end Go.Proofs.Ythmlninecfjjgaa.AD

namespace Go.Proofs.Ythmlninecfjjgaa.AD
open Go.Proofs
set_option linter.unusedVariables false
set_option linter.unusedSimpArgs false
set_option maxRecDepth 100000

/-- The instruction of a kind with parts. -/
def insOf (o : Int) : Int := if o = 3 then 5 else if o = 4 then 8 else if o = 8 then 7 else if o = 23 then 26 else if o = 24 then 27 else if o = 25 then 23 else o
def insTab : List PV := [.int .u8 0, .int .u8 0, .int .u8 0, .int .u8 5, .int .u8 8, .int .u8 0, .int .u8 6, .int .u8 0, .int .u8 7, .int .u8 9, .int .u8 10, .int .u8 11, .int .u8 12, .int .u8 13, .int .u8 14, .int .u8 15, .int .u8 16, .int .u8 17, .int .u8 18, .int .u8 19, .int .u8 20, .int .u8 21, .int .u8 22, .int .u8 26, .int .u8 27, .int .u8 23, .int .u8 0, .int .u8 0]
theorem instrs_spec : pureF Try.prog 87 [] (.p (.agg insTab)) := by
  refine pureF_of f87_ok fun H => ?_
  (conv => whnf)
  exact ⟨rfl, rfl⟩

theorem ins_range {o : Int} (h : arityI o = 1 ∨ arityI o = 2) : (0 ≤ o ∧ o < 28) ∧ insTab[o.toNat * 1]? = some (.int .u8 (insOf o)) ∧ 1 ≤ insOf o ∧ insOf o ≤ 38 := by
  rcases h with h | h
  · rcases arity1 h with rfl | rfl | rfl | rfl | rfl <;> exact ⟨by omega, rfl, by decide, by decide⟩
  · rcases arity2 h with rfl | rfl | rfl | rfl | rfl | rfl | rfl | rfl | rfl | rfl | rfl | rfl | rfl | rfl | rfl | rfl <;> exact ⟨by omega, rfl, by decide, by decide⟩

/-- A leap's place told. -/
def setA (i : Nat) (n : Int) (C : List Ins) : List Ins := C.modify i fun x => ⟨x.op, n, x.b⟩
theorem setA_len (i : Nat) (n : Int) (C : List Ins) : (setA i n C).length = C.length := by simp [setA]
theorem setA_get {i : Nat} {n : Int} {C : List Ins} {x : Ins} (h : C[i]? = some x) : setA i n C = C.set i ⟨x.op, n, x.b⟩ := by
  rw [setA]
  refine List.ext_getElem? fun j => ?_
  rw [List.getElem?_modify, List.getElem?_set]
  by_cases e : i = j
  · subst e
    rw [if_pos rfl, if_pos (get_lt h), h]
    simp
  · rw [if_neg e]
    simp [e]
theorem cP_set (i : Nat) (x : Ins) (C : List Ins) : cP (C.set i x) = (cP C).set i (insP x) := by rw [cP, List.map_set]; rfl

def landB (at_ : Nat) (b : Bs) : Bs := { b with C := setA (min at_ (b.C.length - 1)) b.C.length b.C }

def exB : Ex → Bs → Bs
  | .mk o t [], b => if o = 1 then namedB 1 t b else if o = 2 then namedB 4 t b else if o = 5 then namedB 2 t b else if o = 7 then namedB 3 t b else if o = 26 then putB ⟨24, 0, 0⟩ b else if o = 27 then putB ⟨25, 0, 0⟩ b else b
  | .mk o t [a], b => putB ⟨insOf o, 0, 0⟩ (exB a b)
  | .mk o t [a, c], b => if o = 23 ∨ o = 24 then landB (exB a b).C.length (exB c (putB ⟨insOf o, 0, 0⟩ (exB a b))) else putB ⟨insOf o, 0, 0⟩ (exB c (exB a b))
  | .mk _ _ (_ :: _ :: _ :: _), b => b

theorem landB_T (n : Nat) (b : Bs) : (landB n b).T = b.T := rfl
theorem landB_len (n : Nat) (b : Bs) : (landB n b).C.length = b.C.length := setA_len _ _ _

theorem ecnts_pos : (∀ e, 1 ≤ ecnt e) ∧ ∀ l, 0 ≤ ecnts l := by
  have main : ∀ l : List Ex, (∀ a, a ∈ l → 1 ≤ ecnt a) → 0 ≤ ecnts l := by
    intro l
    induction l with
    | nil => intro _; simp [ecnts]
    | cons a r ihr => intro h; have := h a (by simp); have := ihr (fun c hc => h c (by simp [hc])); simp only [ecnts]; omega
  have one : ∀ e, 1 ≤ ecnt e := by
    intro e
    induction e using Ex.ind with
    | h o t xs ih => have := main xs ih; simp only [ecnt]; omega
  exact ⟨one, fun l => main l fun a _ => one a⟩

theorem putB_len (x : Ins) (b : Bs) : b.C.length ≤ (putB x b).C.length ∧ (b.C.length ≤ 32769 → (putB x b).C.length ≤ 32769 ∧ 1 ≤ (putB x b).C.length) := by
  simp only [putB]
  split
  · simp; omega
  · omega
theorem namedB_len (o : Int) (s : ByteArray) (b : Bs) : b.C.length ≤ (namedB o s b).C.length ∧ (b.C.length ≤ 32769 → (namedB o s b).C.length ≤ 32769 ∧ 1 ≤ (namedB o s b).C.length) := by
  rw [namedB]
  split <;> exact putB_len _ _

/-- How much a piece of code adds. -/
structure Adds (b b' : Bs) (n : Int) : Prop where
  T : (b'.T.length : Int) ≤ b.T.length + n
  up : b.C.length ≤ b'.C.length
  lim : b.C.length ≤ 32769 → b'.C.length ≤ 32769 ∧ 1 ≤ b'.C.length
theorem putB_adds (x : Ins) (b : Bs) : Adds b (putB x b) 0 := ⟨by rw [putB_T]; omega, (putB_len x b).1, (putB_len x b).2⟩
theorem namedB_adds (o : Int) (s : ByteArray) (b : Bs) : Adds b (namedB o s b) 1 := ⟨by have := namedB_T o s b; omega, (namedB_len o s b).1, (namedB_len o s b).2⟩
theorem Adds.trans {a b c : Bs} {n m : Int} (h : Adds a b n) (k : Adds b c m) : Adds a c (n + m) := ⟨by have := h.T; have := k.T; omega, Nat.le_trans h.up k.up, fun e => k.lim (h.lim e).1⟩
theorem Adds.land {a b : Bs} {n : Int} (h : Adds a b n) (k : Nat) : Adds a (landB k b) n := ⟨h.T, by rw [landB_len]; exact h.up, fun e => by rw [landB_len]; exact h.lim e⟩
theorem Adds.more {a b : Bs} {n m : Int} (h : Adds a b n) (k : n ≤ m) : Adds a b m := ⟨by have := h.T; omega, h.up, h.lim⟩

theorem exB_adds (e : Ex) : Shaped e → ∀ b, Adds b (exB e b) (ecnt e) := by
  induction e using Ex.ind with
  | h o t xs ih =>
    intro hs b
    rcases hs.args with ⟨h0, rfl⟩ | ⟨h0, a, rfl, ha⟩ | ⟨h0, a, c, rfl, ha, hc⟩
    · simp only [exB]
      have e1 : (ecnt (.mk o t [])) = 1 := rfl
      rw [e1]
      rcases arity0 h0 with rfl | rfl | rfl | rfl | rfl | rfl <;> simp only [Int.reduceEq, if_true, if_false] <;> first | exact namedB_adds _ _ _ | exact (putB_adds _ _).more (by omega)
    · simp only [exB]
      exact ((ih a (by simp) ha b).trans (putB_adds _ _)).more (by simp only [ecnt, ecnts]; omega)
    · have h1 := ih a (by simp) ha b
      simp only [exB]
      split
      · exact (((h1.trans (putB_adds ⟨insOf o, 0, 0⟩ _)).trans (ih c (by simp) hc _)).land _).more (by simp only [ecnt, ecnts]; omega)
      · exact ((h1.trans (ih c (by simp) hc _)).trans (putB_adds _ _)).more (by simp only [ecnt, ecnts]; omega)

theorem land_spec (κ : Int) (b : Bs) (n : Nat) (lo rest : List Ob) (k : Nat) (K : AV → List Ob → List Ob → Prop) (h1 : lo[k]? = some (.cells [.ref (.b 0) 0])) (h2 : lo[k + 1]? = some (.cells [.p (.int .i64 n)])) (hc1 : 1 ≤ b.C.length) (hc2 : b.C.length ≤ 32769)
    (hK : K (.p (.tup [])) (bos κ (landB n b) ++ rest) lo) : CallVC Try.prog 86 [.ref (.l k) 0, .ref (.l (k + 1)) 0] (bos κ b ++ rest) lo K := by
  have hc := cP_len b.C
  have hlt : min n (b.C.length - 1) < b.C.length := by omega
  have hx : b.C[min n (b.C.length - 1)]? = some b.C[min n (b.C.length - 1)] := List.getElem?_eq_getElem hlt
  refine CallVC.inline f86_ok ?_
  (conv => whnf)
  refine atK_in _ _ _ _ h1 ?_
  (conv => whnf)
  refine atK_in _ _ _ _ h2 ?_
  (conv => whnf)
  refine atK_in _ _ _ _ h1 ?_
  (conv => whnf)
  refine ⟨rfl, ?_⟩
  (conv => whnf)
  rw [IntWalk.i64_in _ (by omega)]
  refine atK_in _ _ _ _ h1 ?_
  (conv => whnf)
  refine ⟨rfl, ?_⟩
  (conv => whnf)
  have hm : (if (b.C.length : Int) - 1 < (n : Int) then (b.C.length : Int) - 1 else (n : Int)) = ((min n (b.C.length - 1) : Nat) : Int) := by split <;> omega
  rw [hm]
  refine ⟨⟨rfl, by omega, by omega⟩, rfl, ?_⟩
  (conv => whnf)
  have hne : cP b.C ≠ [] := fun e => by rw [e] at hc; simp at hc; omega
  refine ⟨⟨rfl, hne⟩, ?_⟩
  (conv => whnf)
  refine ⟨⟨rfl, rfl⟩, insP _, cP_get hx, ?_⟩
  (conv => whnf)
  have e : bos κ (landB n b) = [.cells [.p (.int .u8 κ), .view (.b 1) b.T.length 1 b.T.length, .view (.b 2) b.C.length 3 b.C.length, .p (.int .i64 b.S), .mapr (.b 3), .p (.int .i64 b.h)],
      .buf b.T.length 1 (tP b.T), .buf b.C.length 3 ((cP b.C).set (min n (b.C.length - 1)) (insP ⟨(b.C[min n (b.C.length - 1)]).op, b.C.length, (b.C[min n (b.C.length - 1)]).b⟩)), .map (mP 0 b.T)] := by
    simp only [bos, landB, setA_len]
    rw [setA_get hx, cP_set]
  rw [e] at hK
  exact hK

/-- Where a leap stands that is not told yet. -/
def leapLo (n : Nat) : List Ob := [.cells [.ref (.b 0) 0], .cells [.p (.int .i64 n)]]

theorem leap_VC (κ : Int) (b : Bs) (o : Int) (lo rest : List Ob) (K : AV → List Ob → List Ob → Prop)
    (k : K (.clos (.func 86) [] [.ref (.l lo.length) 0, .ref (.l (lo.length + 1)) 0]) (bos κ (putB ⟨o, 0, 0⟩ b) ++ rest) (lo ++ leapLo b.C.length)) :
    CallVC Try.prog 57 [.ref (.b 0) 0, .p (.int .u8 o)] (bos κ b ++ rest) lo K := by
  refine CallVC.inline f57_ok ?_
  (conv => whnf)
  rw [pushK_eq]
  have g1 : ∀ X : List Ob, (lo ++ [.cells [.ref (.b 0) 0]] ++ X)[lo.length]? = some (.cells [.ref (.b 0) 0]) := fun X => by simp
  have g2 : ∀ c : Ob, (lo ++ [.cells [.ref (.b 0) 0]] ++ [c])[lo.length + 1]? = some c := fun c => by
    rw [List.getElem?_append_right (by simp)]
    simp
  have g1' := g1 []
  rw [List.append_nil] at g1'
  (conv => whnf)
  refine atK_in _ _ _ _ g1' ?_
  (conv => whnf)
  refine ⟨rfl, ?_⟩
  (conv => whnf)
  rw [pushK_eq]
  (conv => whnf)
  refine atK_in _ _ _ (.cells [.p (.int .i64 0)]) (by rw [List.length_append]; exact g2 _) ?_
  (conv => whnf)
  refine setAtK_in _ _ _ _ (by simp) ?_
  have e9 : (lo ++ [Ob.cells [.ref (.b 0) 0]] ++ [Ob.cells [.p (.int .i64 0)]]).set (lo ++ [Ob.cells [.ref (.b 0) 0]]).length (Ob.cells [.p (.int .i64 b.C.length)]) = lo ++ leapLo b.C.length := by
    rw [List.set_append_right _ _ (by simp)]
    simp [leapLo]
  (conv => whnf)
  rw [e9]
  refine atK_in _ _ _ (.cells [.ref (.b 0) 0]) (by simp [leapLo]) ?_
  (conv => whnf)
  refine CallVC.same (op_spec κ b o) rfl rfl rfl ?_
  have e8 : (lo ++ [Ob.cells [.ref (.b 0) 0]]).length = lo.length + 1 := by simp
  rw [← e8] at k
  (conv => whnf)
  exact k

set_option maxHeartbeats 2000000 in
theorem expr_spec (κ : Int) (e : Ex) : ∀ b : Bs, Shaped e → (b.T.length : Int) + ecnt e ≤ 1000000 → b.C.length ≤ 32769 → Meth Try.prog 58 [.ref (.b 0) 0, .p (enc e)] (bos κ b) (.tup []) (bos κ (exB e b)) := by
  induction e using Ex.ind with
  | h o t xs ih =>
    intro b hs hT hC
    refine Meth.of f58_ok fun rest => ?_
    have hin := instrs_spec
    rcases hs.args with ⟨h0, rfl⟩ | ⟨h0, a, rfl, ha⟩ | ⟨h0, a, c, rfl, ha, hc⟩
    · have hT : b.T.length ≤ 1000000 := by simp only [ecnt, ecnts] at hT; omega
      have n1 := fun o => named_spec κ b o t hT
      have n2 := op_spec κ b
      rcases arity0 h0 with rfl | rfl | rfl | rfl | rfl | rfl
      all_goals
        repeat' ((conv => whnf); first | refine splitB_t rfl ?_ | refine splitB_f rfl ?_ | refine CallVC.same (n1 _) rfl rfl rfl ?_ | refine CallVC.same (n2 _) rfl rfl rfl ?_)
        exact ⟨rfl, rfl⟩
    · obtain ⟨hr, hg, _⟩ := ins_range (.inl h0)
      have had := exB_adds a ha b
      have iha := ih a (by simp) b ha (by simp only [ecnt, ecnts] at hT; omega) hC
      have n2 := op_spec κ (exB a b)
      have hdef : exB (.mk o t [a]) b = putB ⟨insOf o, 0, 0⟩ (exB a b) := rfl
      rw [hdef]
      obtain ⟨o', t', xs'⟩ := a
      rcases arity1 h0 with rfl | rfl | rfl | rfl | rfl
      all_goals
        repeat' ((conv => whnf); first | refine splitB_t rfl ?_ | refine splitB_f rfl ?_ | refine CallVC.same iha rfl rfl rfl ?_ | refine CallD.pureF hin rfl ?_ | (intro R hR; refine hR _ _ _ ?_) | refine ⟨rfl, enc (.mk o' t' xs'), ⟨by omega, rfl⟩, ?_⟩ | refine hR _ _ _ ?_ | refine ⟨hr, _, hg, ?_⟩ | refine CallE.mk ⟨_, _, _, CallVC.same (n2 _) rfl rfl rfl ⟨rfl, rfl, rfl⟩, ?_⟩ | exact ⟨rfl, rfl⟩)
    · obtain ⟨hr, hg, _⟩ := ins_range (.inr h0)
      have had := exB_adds a ha b
      have hec := ecnts_pos.1 c
      have hea := ecnts_pos.1 a
      have hT : (b.T.length : Int) + ecnt a + ecnt c ≤ 1000000 := by simp only [ecnt, ecnts] at hT; omega
      have iha := ih a (by simp) b ha (by omega) hC
      have n2 := op_spec κ (exB a b)
      have hC1 := had.lim hC
      have hT1 := had.T
      by_cases hlog : o = 23 ∨ o = 24
      · have had2 := putB_adds ⟨insOf o, 0, 0⟩ (exB a b)
        have hC2 := had2.lim hC1.1
        have hT2 := had2.T
        have ihc := ih c (by simp) (putB ⟨insOf o, 0, 0⟩ (exB a b)) hc (by omega) hC2.1
        have hC3 := (exB_adds c hc (putB ⟨insOf o, 0, 0⟩ (exB a b))).lim hC2.1
        have hdef : exB (.mk o t [a, c]) b = landB (exB a b).C.length (exB c (putB ⟨insOf o, 0, 0⟩ (exB a b))) := by rw [exB, if_pos hlog]
        rw [hdef]
        have hcell : ∀ x : Ob, [x, .cells [.ref (.b 0) 0], .cells [.p (.int .i64 (exB a b).C.length)]][1]? = some (.cells [.ref (.b 0) 0]) := fun x => rfl
        have hcell2 : ∀ x : Ob, [x, .cells [.ref (.b 0) 0], .cells [.p (.int .i64 (exB a b).C.length)]][1 + 1]? = some (.cells [.p (.int .i64 (exB a b).C.length)]) := fun x => rfl
        obtain ⟨o', t', xs'⟩ := a
        obtain ⟨o2, t2, xs2⟩ := c
        rcases hlog with rfl | rfl
        all_goals
          repeat' ((conv => whnf); first | refine splitB_t rfl ?_ | refine splitB_f rfl ?_ | refine CallVC.same iha rfl rfl rfl ?_ | refine CallD.pureF hin rfl ?_ | refine ⟨rfl, enc (.mk o' t' xs'), ⟨by omega, rfl⟩, ?_⟩ | refine ⟨hr, _, hg, ?_⟩)
          (conv => whnf)
          refine CallE.mk ⟨_, _, _, leap_VC κ _ _ _ rest _ ⟨rfl, rfl, rfl⟩, ?_⟩
          repeat' ((conv => whnf); first | refine ⟨rfl, enc (.mk o2 t2 xs2), ⟨by omega, rfl⟩, ?_⟩ | refine CallVC.same ihc rfl rfl rfl ?_ | refine ⟨rfl, land_spec κ _ _ _ rest _ _ rfl rfl hC3.2 hC3.1 ?_⟩ | exact ⟨rfl, rfl⟩)
      · have ihc := ih c (by simp) (exB a b) hc (by omega) hC1.1
        have n3 := op_spec κ (exB c (exB a b))
        have hdef : exB (.mk o t [a, c]) b = putB ⟨insOf o, 0, 0⟩ (exB c (exB a b)) := by rw [exB, if_neg hlog]
        rw [hdef]
        obtain ⟨o', t', xs'⟩ := a
        obtain ⟨o2, t2, xs2⟩ := c
        rcases arity2 h0 with rfl | rfl | rfl | rfl | rfl | rfl | rfl | rfl | rfl | rfl | rfl | rfl | rfl | rfl | rfl | rfl
        all_goals first | (exfalso; omega) | skip
        all_goals
          repeat' ((conv => whnf); first | refine splitB_t rfl ?_ | refine splitB_f rfl ?_ | refine CallVC.same iha rfl rfl rfl ?_ | refine CallVC.same ihc rfl rfl rfl ?_ | refine CallD.pureF hin rfl ?_ | (intro R hR; refine hR _ _ _ ?_) | refine ⟨rfl, enc (.mk o' t' xs'), ⟨by omega, rfl⟩, ?_⟩ | refine ⟨rfl, enc (.mk o2 t2 xs2), ⟨by decide, rfl⟩, ?_⟩ | refine hR _ _ _ ?_ | refine ⟨hr, _, hg, ?_⟩ | refine CallE.mk ⟨_, _, _, CallVC.same (n3 _) rfl rfl rfl ⟨rfl, rfl, rfl⟩, ?_⟩ | exact ⟨rfl, rfl⟩)

end Go.Proofs.Ythmlninecfjjgaa.AD

namespace Go.Proofs.Ythmlninecfjjgaa.AD
open Go.Proofs
set_option linter.unusedVariables false
set_option linter.unusedSimpArgs false
set_option maxRecDepth 100000

/-- Behind the test. -/
def tstB (t : Ex) (b : Bs) : Bs := putB ⟨28, 0, 0⟩ (exB t (putB ⟨29, 0, 0⟩ b))
/-- Behind what is done. -/
def endB (n m : Nat) (b : Bs) : Bs := landB n (putB ⟨30, 0, 0⟩ (landB m b))
mutual
def clB : Cl → Bs → Bs
  | .mk k t v l, b => endB b.C.length (exB t (putB ⟨29, 0, 0⟩ b)).C.length
      (if k = 1 then putB ⟨32, 0, 0⟩ (tstB t b) else if k = 2 then putB ⟨31, 0, 0⟩ (exB v (tstB t b)) else if k = 3 then clsB l (tstB t b) else tstB t b)
def clsB : List Cl → Bs → Bs
  | [], b => b
  | c :: r, b => clsB r (clB c b)
end

theorem ccnt_pos : (∀ c, 1 ≤ ccnt c) ∧ ∀ l, 0 ≤ ccnts l := by
  have main : ∀ l : List Cl, (∀ a, a ∈ l → 1 ≤ ccnt a) → 0 ≤ ccnts l := by
    intro l
    induction l with
    | nil => intro _; simp [ccnts]
    | cons a r ihr => intro h; have := h a (by simp); have := ihr (fun c hc => h c (by simp [hc])); simp only [ccnts]; omega
  have one : ∀ c, 1 ≤ ccnt c := by
    intro c
    induction c using Cl.ind with
    | h k t v b ih => have := main b ih; have := ecnts_pos.1 t; have := ecnts_pos.1 v; simp only [ccnt]; omega
  exact ⟨one, fun l => main l fun a _ => one a⟩

theorem tstB_adds {t : Ex} (h : Shaped t) (b : Bs) : Adds b (tstB t b) (ecnt t) := (((putB_adds ⟨29, 0, 0⟩ b).trans (exB_adds t h _)).trans (putB_adds ⟨28, 0, 0⟩ _)).more (by omega)
theorem endB_adds (n m : Nat) (b : Bs) : Adds b (endB n m b) 0 := by
  have h := putB_len ⟨30, 0, 0⟩ (landB m b)
  rw [landB_len] at h
  exact ⟨by rw [endB, landB_T, putB_T, landB_T]; omega, by rw [endB, landB_len]; exact h.1, fun e => by rw [endB, landB_len]; exact h.2 e⟩

theorem clB_adds : (∀ c, checkC c = true → ∀ b, Adds b (clB c b) (ccnt c)) ∧ ∀ l, checkL l = true → ∀ b, (clsB l b).T.length ≤ b.T.length + ccnts l ∧ b.C.length ≤ (clsB l b).C.length ∧ (b.C.length ≤ 32769 → (clsB l b).C.length ≤ 32769) := by
  have main : ∀ l : List Cl, (∀ c, c ∈ l → checkC c = true → ∀ b, Adds b (clB c b) (ccnt c)) → checkL l = true → ∀ b, (clsB l b).T.length ≤ b.T.length + ccnts l ∧ b.C.length ≤ (clsB l b).C.length ∧ (b.C.length ≤ 32769 → (clsB l b).C.length ≤ 32769) := by
    intro l
    induction l with
    | nil => intro _ _ b; simp [clsB, ccnts]
    | cons c r ih =>
      intro h hc b
      simp only [checkL, Bool.and_eq_true] at hc
      have h1 := h c (by simp) hc.1 b
      obtain ⟨g1, g2, g3⟩ := ih (fun d hd => h d (by simp [hd])) hc.2 (clB c b)
      have := h1.T
      have := h1.up
      simp only [clsB, ccnts]
      exact ⟨by omega, by omega, fun e => g3 (h1.lim e).1⟩
  have one : ∀ c, checkC c = true → ∀ b, Adds b (clB c b) (ccnt c) := by
    intro c
    induction c using Cl.ind with
    | h k t v l ih =>
      intro hc b
      obtain ⟨s1, s2, s3⟩ := checkC_parts hc
      have h1 := tstB_adds s1 b
      have hv := ecnts_pos.1 v
      have hl := ccnt_pos.2 l
      simp only [clB]
      split
      · exact ((h1.trans (putB_adds _ _)).trans (endB_adds _ _ _)).more (by simp only [ccnt]; omega)
      · split
        · rename_i h2
          exact (((h1.trans (exB_adds v (s2 h2) _)).trans (putB_adds _ _)).trans (endB_adds _ _ _)).more (by simp only [ccnt]; omega)
        · split
          · obtain ⟨g1, g2, g3⟩ := main l ih s3 (tstB t b)
            have hT := h1.T
            have hup := h1.up
            have h9 : Adds b (clsB l (tstB t b)) (ecnt t + ccnts l) := ⟨by omega, by omega, fun e => by have := h1.lim e; exact ⟨g3 this.1, by omega⟩⟩
            exact (h9.trans (endB_adds _ _ _)).more (by simp only [ccnt]; omega)
          · exact (h1.trans (endB_adds _ _ _)).more (by simp only [ccnt]; omega)
  exact ⟨one, fun l => main l fun c _ => one c⟩

set_option maxHeartbeats 4000000 in
theorem clause_spec (κ : Int) (c : Cl) : ∀ b : Bs, checkC c = true → FitsC c → (b.T.length : Int) + ccnt c ≤ 1000000 → b.C.length ≤ 32769 → Meth Try.prog 38 [.ref (.b 0) 0, .p (encC c)] (bos κ b) (.tup []) (bos κ (clB c b)) := by
  induction c using Cl.ind with
  | h k t v l ih =>
    intro b hck hfit hT hC
    cases hfit with
    | mk _ _ _ _ hk hft hfv hl hfl =>
    obtain ⟨s1, s2, s3⟩ := checkC_parts hck
    have he := encCs_len l
    have pt := ecnts_pos.1 t
    have pv := ecnts_pos.1 v
    have pl := ccnt_pos.2 l
    have hTT : (b.T.length : Int) + ecnt t + ecnt v + ccnts l ≤ 1000000 := by simp only [ccnt] at hT; omega
    have a1 := putB_adds ⟨29, 0, 0⟩ b
    have a2 := exB_adds t s1 (putB ⟨29, 0, 0⟩ b)
    have a3 := putB_adds ⟨28, 0, 0⟩ (exB t (putB ⟨29, 0, 0⟩ b))
    have u1 := a1.T
    have u2 := a2.T
    have u3 := a3.T
    have c1 := a1.lim hC
    have c2 := a2.lim c1.1
    have c3 := a3.lim c2.1
    have ht := expr_spec κ t (putB ⟨29, 0, 0⟩ b) s1 (by omega) c1.1
    have hT3 : ((tstB t b).T.length : Int) + ecnt v + ccnts l ≤ 1000000 := by rw [tstB]; omega
    have hC3 : (tstB t b).C.length ≤ 32769 ∧ 1 ≤ (tstB t b).C.length := c3
    have hv := fun hk2 => expr_spec κ v (tstB t b) (s2 hk2) (by omega) hC3.1
    have hv2 := fun hk2 => (exB_adds v (s2 hk2) (tstB t b)).lim hC3.1
    have hdef : clB (.mk k t v l) b = endB b.C.length (exB t (putB ⟨29, 0, 0⟩ b)).C.length (if k = 1 then putB ⟨32, 0, 0⟩ (tstB t b) else if k = 2 then putB ⟨31, 0, 0⟩ (exB v (tstB t b)) else if k = 3 then clsB l (tstB t b) else tstB t b) := rfl
    refine Meth.of f38_ok fun rest => ?_
    generalize hn : b.C.length = n at hdef
    generalize hm : (exB t (putB ⟨29, 0, 0⟩ b)).C.length = m at hdef
    obtain ⟨o, tt, xs⟩ := t
    obtain ⟨o2, t2, xs2⟩ := v
    let lo5 : List Ob := [.cells [.p (.int .u8 k), .p (.int .u8 o), .p (.str tt), .p (.list 3 (encs xs)), .p (.int .u8 o2), .p (.str t2), .p (.list 3 (encs xs2)), .p (.list 8 (encCs l))],
        .cells [.ref (.b 0) 0], .cells [.p (.int .i64 n)], .cells [.ref (.b 0) 0], .cells [.p (.int .i64 m)]]
    have last : ∀ b4 : Bs, 1 ≤ b4.C.length → b4.C.length ≤ 32769 → endB n m b4 = clB (.mk k (.mk o tt xs) (.mk o2 t2 xs2) l) b → W Try.prog f38.c35 [(0, .ref (.b 0) 0), (4, .clos (.func 86) [] [.ref (.l 1) 0, .ref (.l 2) 0]), (5, .clos (.func 86) [] [.ref (.l 3) 0, .ref (.l 4) 0])] (bos κ b4 ++ rest) lo5
        (endQ f38 fun r' H' => r' = .p (.tup []) ∧ H' = bos κ (clB (.mk k (.mk o tt xs) (.mk o2 t2 xs2) l) b) ++ rest) := by
      intro b4 h1 h2 h3
      have hp := op_spec κ (landB m b4) 30
      have hq := putB_len ⟨30, 0, 0⟩ (landB m b4)
      rw [landB_len] at hq
      (conv => whnf)
      refine ⟨rfl, land_spec κ b4 m _ rest 3 _ rfl rfl h1 h2 ?_⟩
      (conv => whnf)
      refine CallVC.same hp rfl rfl rfl ?_
      (conv => whnf)
      refine ⟨rfl, land_spec κ _ n _ rest 1 _ rfl rfl (hq.2 h2).2 (hq.2 h2).1 ?_⟩
      exact ⟨rfl, by rw [← h3]; rfl⟩
    (conv => whnf)
    refine leap_VC κ b 29 _ rest _ ?_
    (conv => whnf)
    refine CallVC.same ht rfl rfl rfl ?_
    (conv => whnf)
    refine leap_VC κ _ 28 _ rest _ ?_
    rw [hn, hm]
    (conv => whnf)
    refine splitB_eq (fun h1 => ?_) (fun h1 => ?_)
    · subst h1
      have hp := op_spec κ (tstB (.mk o tt xs) b) 32
      have hq := (putB_len ⟨32, 0, 0⟩ (tstB (.mk o tt xs) b)).2 hC3.1
      have q := last (putB ⟨32, 0, 0⟩ (tstB (.mk o tt xs) b)) hq.2 hq.1 (by rw [hdef]; rfl)
      (conv at q => whnf)
      (conv => whnf)
      refine CallVC.same hp rfl rfl rfl ?_
      (conv => whnf)
      exact q
    · (conv => whnf)
      refine splitB_eq (fun h2 => ?_) (fun h2 => ?_)
      · subst h2
        have hv3 := hv rfl
        have hp := op_spec κ (exB (.mk o2 t2 xs2) (tstB (.mk o tt xs) b)) 31
        have hq := (putB_len ⟨31, 0, 0⟩ (exB (.mk o2 t2 xs2) (tstB (.mk o tt xs) b))).2 (hv2 rfl).1
        have q := last (putB ⟨31, 0, 0⟩ (exB (.mk o2 t2 xs2) (tstB (.mk o tt xs) b))) hq.2 hq.1 (by rw [hdef]; rfl)
        (conv at q => whnf)
        (conv => whnf)
        refine CallVC.same hv3 rfl rfl rfl ?_
        (conv => whnf)
        refine CallVC.same hp rfl rfl rfl ?_
        (conv => whnf)
        exact q
      · (conv => whnf)
        have h3 : k = 3 := by
          have := (checkC_k k (.mk o tt xs) (.mk o2 t2 xs2) l).2.2.2
          by_cases h3 : k = 3
          · exact h3
          · rw [this (by omega)] at hck; cases hck
        refine splitB_t (beq_iff_eq.2 h3) ?_
        (conv => whnf)
        intro R hR
        have key : ∀ (r : List Cl) (i : Nat) (b4 : Bs), l.drop i = r → 1 ≤ b4.C.length → b4.C.length ≤ 32769 → (b4.T.length : Int) + ccnts r ≤ 1000000 → clsB r b4 = clsB l (tstB (.mk o tt xs) b) → R [(0, .ref (.b 0) 0), (4, .clos (.func 86) [] [.ref (.l 1) 0, .ref (.l 2) 0]), (5, .clos (.func 86) [] [.ref (.l 3) 0, .ref (.l 4) 0]), (33, .p (.list 8 (encCs l))), (34, .p (.int .i64 (encCs l).length)), (35, .p (.int .i64 i))] (bos κ b4 ++ rest) lo5 := by
          intro r
          induction r with
          | nil =>
            intro i b4 hd g1 g2 g3 hq
            have hl := drop_nil hd
            have q := last b4 g1 g2 (by rw [hdef, if_neg h1, if_neg h2, if_pos h3, ← hq]; rfl)
            (conv at q => whnf)
            refine hR _ _ _ ?_
            (conv => whnf)
            refine splitB_f (decide_eq_false (by omega)) ?_
            (conv => whnf)
            exact q
          | cons a r ihr =>
            intro i b4 hd g1 g2 g3 hq
            obtain ⟨hg, hd', hi⟩ := drop_cons hd
            have hmem := List.mem_of_getElem? hg
            have hca := checkL_mem l s3 a hmem
            have ha := clB_adds.1 a hca b4
            have hpr := ccnt_pos.2 r
            simp only [ccnts] at g3
            have haT := ha.T
            have haC := ha.lim g2
            have iha := ih a hmem b4 hca (hfl a hmem) (by omega) g2
            refine hR _ _ _ ?_
            (conv => whnf)
            refine splitB_t (decide_eq_true (by omega)) ?_
            (conv => whnf)
            obtain ⟨k', ⟨o', t', xs'⟩, ⟨o3, t3, xs3⟩, l'⟩ := a
            refine ⟨rfl, encC (.mk k' (.mk o' t' xs') (.mk o3 t3 xs3) l'), ⟨by omega, encCs_get hg⟩, ?_⟩
            (conv => whnf)
            refine CallVC.same iha rfl rfl rfl ?_
            (conv => whnf)
            rw [IntWalk.i64_in _ (by omega)]
            exact ihr (i + 1) _ hd' haC.2 haC.1 (by omega) hq
        exact key l 0 (tstB (.mk o tt xs) b) rfl hC3.2 hC3.1 (by omega) rfl

end Go.Proofs.Ythmlninecfjjgaa.AD

namespace Go.Proofs.Ythmlninecfjjgaa.AD
open Go.Proofs
set_option linter.unusedVariables false
set_option linter.unusedSimpArgs false
set_option maxRecDepth 100000

def ofTab : List (Int × Int) := [(3, 5), (4, 8), (6, 6), (8, 7), (9, 9), (10, 10), (11, 11), (12, 12), (13, 13), (14, 14), (15, 15), (16, 16), (17, 17), (18, 18), (19, 19), (20, 20), (21, 21), (22, 22), (23, 26), (24, 27), (25, 23)]
def ofFind (o : Int) : List (Int × Int) → Int
  | [] => 0
  | (a, b) :: r => if a = o then b else ofFind o r
theorem ofFind_eq {o : Int} (h : arityI o = 1 ∨ arityI o = 2) : ofFind o ofTab = insOf o := by
  rcases h with h | h
  · rcases arity1 h with rfl | rfl | rfl | rfl | rfl <;> rfl
  · rcases arity2 h with rfl | rfl | rfl | rfl | rfl | rfl | rfl | rfl | rfl | rfl | rfl | rfl | rfl | rfl | rfl | rfl <;> rfl

theorem Of_spec (o : Int) (h : arityI o = 1 ∨ arityI o = 2) : pureF Try.prog 85 [.p (.int .u8 o)] (.p (.int .u8 (insOf o))) := by
  refine pureF_of f85_ok fun H => ?_
  have hq := ofFind_eq h
  (conv => whnf)
  intro R hR
  have key : ∀ (rest : List (Int × Int)) (i : Nat), ofTab.drop i = rest → ofFind o rest = insOf o → R [(0, .p (.int .u8 o)), (3, .p (.list 1 (ofTab.map fun p => .int .u8 p.1))), (4, .p (.list 1 (ofTab.map fun p => .int .u8 p.2))), (5, .p (.int .i64 i))] H [] := by
    intro rest
    induction rest with
    | nil =>
      intro i hd hf
      exfalso
      have := (ins_range h).2.2.1
      rw [← hf] at this
      simp [ofFind] at this
    | cons p r ih =>
      intro i hd hf
      obtain ⟨hg, hd', hi⟩ := drop_cons hd
      obtain ⟨x, y⟩ := p
      have hl : ofTab.length = 21 := rfl
      have hg1 : (ofTab.map fun p => PV.int .u8 p.1)[i]? = some (.int .u8 x) := by rw [List.getElem?_map, hg]; rfl
      have hg2 : (ofTab.map fun p => PV.int .u8 p.2)[i]? = some (.int .u8 y) := by rw [List.getElem?_map, hg]; rfl
      refine hR _ _ _ ?_
      (conv => whnf)
      refine splitB_t (decide_eq_true (by rw [List.length_map, hl]; omega)) ?_
      (conv => whnf)
      refine ⟨rfl, _, ⟨by omega, hg1⟩, ?_⟩
      (conv => whnf)
      simp only [ofFind] at hf
      refine splitB_eq (fun e => ?_) (fun e => ?_)
      · rw [if_pos e] at hf
        (conv => whnf)
        refine ⟨rfl, _, ⟨by omega, hg2⟩, ?_⟩
        (conv => whnf)
        exact ⟨by rw [hf], rfl⟩
      · rw [if_neg e] at hf
        (conv => whnf)
        rw [IntWalk.i64_in _ (by omega)]
        exact ih (i + 1) hd' hf
  exact key ofTab 0 rfl hq

def hereW (n : Int) (w : Ws) : Ws := if w.o = true then w else { w with C := setA n.toNat w.C.length w.C }

theorem here_spec (κ : Int) (w : Ws) (n : Int) (h : w.o = false → 0 ≤ n ∧ n < w.C.length) : Meth Try.prog 56 [.ref (.b 0) 0, .p (.int .i64 n)] (wos κ w) (.tup []) (wos κ (hereW n w)) := by
  refine Meth.of f56_ok fun rest => ?_
  have hc := cP_len w.C
  (conv => whnf)
  refine splitB_intro (fun hov => ?_) (fun hov => ?_)
  · have hov : w.o = false := by simpa using hov
    obtain ⟨h0, h1⟩ := h hov
    have hx : w.C[n.toNat]? = some (w.C[n.toNat]'(by omega)) := List.getElem?_eq_getElem (by omega)
    have hne : cP w.C ≠ [] := fun e => by rw [e] at hc; simp at hc; omega
    have e : wos κ (hereW n w) = [.cells [.p (.int .u8 κ), .view (.b 1) w.T.length 1 w.T.length, .view (.b 2) w.C.length 3 w.C.length, .p (.int .i64 w.S), .p (.int .i64 w.h), .p (.bool w.o)],
        .buf w.T.length 1 (tP w.T), .buf w.C.length 3 ((cP w.C).set n.toNat (insP ⟨(w.C[n.toNat]'(by omega)).op, w.C.length, (w.C[n.toNat]'(by omega)).b⟩))] := by
      rw [hereW, if_neg (by rw [hov]; simp)]
      simp only [wos, setA_len]
      rw [setA_get hx, cP_set]
    rw [e]
    (conv => whnf)
    refine ⟨rfl, ?_⟩
    (conv => whnf)
    refine ⟨⟨rfl, h0, h1⟩, rfl, ?_⟩
    (conv => whnf)
    refine ⟨⟨rfl, hne⟩, ?_⟩
    (conv => whnf)
    refine ⟨⟨rfl, rfl⟩, insP _, cP_get hx, ?_⟩
    exact ⟨rfl, rfl⟩
  · have hov : w.o = true := by simpa using hov
    exact ⟨rfl, by rw [hereW, if_pos hov]⟩

/-- How much a piece of code adds. -/
structure AddsW (w w' : Ws) (n : Int) : Prop where
  T : (w'.T.length : Int) ≤ w.T.length + n
  up : w'.o = false → w.o = false ∧ w.C.length ≤ w'.C.length
  lim : w.C.length ≤ 32769 → w'.C.length ≤ 32769
theorem putW_adds (x : Ins) (w : Ws) : AddsW w (putW x w) 0 := by
  refine ⟨by rw [putW_T]; omega, ?_, ?_⟩
  · rw [putW]
    split
    · intro h; cases h
    · intro h; exact ⟨h, by simp⟩
  · rw [putW]
    split
    · exact fun h => h
    · intro h; simp; omega
theorem putW_not {x : Ins} {w : Ws} (h : (putW x w).o = false) : putN w = w.C.length ∧ (putW x w).C.length = w.C.length + 1 ∧ w.o = false := by
  rw [putW] at h ⊢
  rw [putN]
  split at h
  · cases h
  · rename_i h2
    rw [if_neg h2, if_neg h2]
    exact ⟨rfl, by simp, h⟩
theorem AddsW.trans {a b c : Ws} {n m : Int} (h : AddsW a b n) (k : AddsW b c m) : AddsW a c (n + m) := ⟨by have := h.T; have := k.T; omega, fun e => by have h1 := k.up e; have h2 := h.up h1.1; exact ⟨h2.1, by omega⟩, fun e => k.lim (h.lim e)⟩
theorem hereW_o (k : Int) (w : Ws) : (hereW k w).o = w.o := by rw [hereW]; split <;> rfl
theorem hereW_T (k : Int) (w : Ws) : (hereW k w).T = w.T := by rw [hereW]; split <;> rfl
theorem hereW_len (k : Int) (w : Ws) : (hereW k w).C.length = w.C.length := by rw [hereW]; split; rfl; exact setA_len _ _ _
theorem AddsW.here {a b : Ws} {n : Int} (h : AddsW a b n) (k : Int) : AddsW a (hereW k b) n := ⟨by rw [hereW_T]; exact h.T, by rw [hereW_o, hereW_len]; exact h.up, by rw [hereW_len]; exact h.lim⟩
theorem AddsW.more {a b : Ws} {n m : Int} (h : AddsW a b n) (k : n ≤ m) : AddsW a b m := ⟨by have := h.T; omega, h.up, h.lim⟩
theorem AddsW.refl (w : Ws) : AddsW w w 0 := ⟨by omega, fun h => ⟨h, Nat.le_refl _⟩, fun h => h⟩
theorem namedW_adds (o : Int) (s : ByteArray) (w : Ws) : AddsW w (namedW o s w) 1 := by
  rw [namedW]
  split
  · exact (AddsW.refl w).more (by omega)
  · split
    · exact (putW_adds _ _).more (by omega)
    · split
      · exact ⟨by simp only []; omega, fun h => (by cases h), fun h => h⟩
      · have h := putW_adds ⟨o, w.T.length, 0⟩ { w with T := w.T ++ [s] }
        exact ⟨by have := h.T; simp at this ⊢; omega, h.up, h.lim⟩

def exW : Ex → Ws → Ws
  | .mk o t [], w => if w.o = true then w else if o = 1 then namedW 1 t w else if o = 2 then namedW 4 t w else if o = 5 then namedW 2 t w else if o = 7 then namedW 3 t w else if o = 26 then putW ⟨24, 0, 0⟩ w else if o = 27 then putW ⟨25, 0, 0⟩ w else w
  | .mk o t [a], w => if w.o = true then w else putW ⟨insOf o, 0, 0⟩ (exW a w)
  | .mk o t [a, c], w => if w.o = true then w else if o = 23 ∨ o = 24 then hereW (putN (exW a w)) (exW c (putW ⟨insOf o, 0, 0⟩ (exW a w))) else putW ⟨insOf o, 0, 0⟩ (exW c (exW a w))
  | .mk _ _ (_ :: _ :: _ :: _), w => w

theorem exW_over (e : Ex) (w : Ws) (h : w.o = true) : exW e w = w := by
  obtain ⟨o, t, xs⟩ := e
  match xs with
  | [] => rw [exW, if_pos h]
  | [a] => rw [exW, if_pos h]
  | [a, c] => rw [exW, if_pos h]
  | _ :: _ :: _ :: _ => rfl

theorem exW_adds (e : Ex) : Shaped e → ∀ w, AddsW w (exW e w) (ecnt e) := by
  induction e using Ex.ind with
  | h o t xs ih =>
    intro hs w
    have h1 := ecnts_pos.1 (.mk o t xs)
    by_cases hov : w.o = true
    · rw [exW_over _ _ hov]; exact (AddsW.refl w).more (by omega)
    · rcases hs.args with ⟨h0, rfl⟩ | ⟨h0, a, rfl, ha⟩ | ⟨h0, a, c, rfl, ha, hc⟩
      · simp only [exW, if_neg hov]
        have e1 : (ecnt (.mk o t [])) = 1 := rfl
        rw [e1]
        rcases arity0 h0 with rfl | rfl | rfl | rfl | rfl | rfl <;> simp only [Int.reduceEq, if_true, if_false] <;> first | exact namedW_adds _ _ _ | exact (putW_adds _ _).more (by omega)
      · simp only [exW, if_neg hov]
        exact ((ih a (by simp) ha w).trans (putW_adds _ _)).more (by simp only [ecnt, ecnts]; omega)
      · have h1 := ih a (by simp) ha w
        simp only [exW, if_neg hov]
        split
        · exact (((h1.trans (putW_adds ⟨insOf o, 0, 0⟩ _)).trans (ih c (by simp) hc _)).here _).more (by simp only [ecnt, ecnts]; omega)
        · exact ((h1.trans (ih c (by simp) hc _)).trans (putW_adds _ _)).more (by simp only [ecnt, ecnts]; omega)

theorem log_at {x : Ins} {w w' : Ws} {n : Int} (h : AddsW (putW x w) w' n) : w'.o = false → 0 ≤ putN w ∧ putN w < w'.C.length := fun e => by
  have h1 := h.up e
  have h2 := putW_not h1.1
  omega

set_option maxHeartbeats 4000000 in
theorem refexpr_spec (κ : Int) (e : Ex) : ∀ w : Ws, Shaped e → (w.T.length : Int) + ecnt e ≤ 1000000 → Meth Try.prog 55 [.ref (.b 0) 0, .p (enc e)] (wos κ w) (.tup []) (wos κ (exW e w)) := by
  induction e using Ex.ind with
  | h o t xs ih =>
    intro w hs hT
    refine Meth.of f55_ok fun rest => ?_
    rcases Bool.eq_false_or_eq_true w.o with hov | hov
    · rw [exW_over _ _ hov]
      (conv => whnf)
      refine splitB_t hov ?_
      exact ⟨rfl, rfl⟩
    · have hno : ¬ w.o = true := by rw [hov]; simp
      rcases hs.args with ⟨h0, rfl⟩ | ⟨h0, a, rfl, ha⟩ | ⟨h0, a, c, rfl, ha, hc⟩
      · have hT : w.T.length ≤ 1000000 := by simp only [ecnt, ecnts] at hT; omega
        have n1 := fun o h1 h2 => refnamed_spec κ w o t h1 h2 hT
        have n2 := fun x h1 h2 => refput_spec κ w x h1 h2
        simp only [exW, if_neg hno]
        (conv => whnf)
        refine splitB_f hov ?_
        rcases arity0 h0 with rfl | rfl | rfl | rfl | rfl | rfl
        all_goals
          repeat' ((conv => whnf); first | refine splitB_t rfl ?_ | refine splitB_f rfl ?_ | refine CallVC.same (n1 _ (by decide) (by decide)) rfl rfl rfl ?_ | refine CallVC.same (n2 ⟨24, 0, 0⟩ (by decide) (by decide)) rfl rfl rfl ?_ | refine CallVC.same (n2 ⟨25, 0, 0⟩ (by decide) (by decide)) rfl rfl rfl ?_ | exact ⟨rfl, rfl⟩)
      · have hr := (ins_range (.inl h0)).2.2
        have hOf := Of_spec o (.inl h0)
        have iha := ih a (by simp) w ha (by simp only [ecnt, ecnts] at hT; omega)
        have n2 := refput_spec κ (exW a w) ⟨insOf o, 0, 0⟩ hr.1 hr.2
        simp only [exW, if_neg hno]
        obtain ⟨o', t', xs'⟩ := a
        (conv => whnf)
        refine splitB_f hov ?_
        rcases arity1 h0 with rfl | rfl | rfl | rfl | rfl
        all_goals
          repeat' ((conv => whnf); first | refine splitB_t rfl ?_ | refine splitB_f rfl ?_ | refine CallVC.same iha rfl rfl rfl ?_ | refine CallVC.pureF hOf rfl ?_ | refine CallVC.same n2 rfl rfl rfl ?_ | (intro R hR; refine hR _ _ _ ?_) | refine ⟨rfl, enc (.mk o' t' xs'), ⟨by omega, rfl⟩, ?_⟩ | refine hR _ _ _ ?_ | exact ⟨rfl, rfl⟩)
      · have hr := (ins_range (.inr h0)).2.2
        have hOf := Of_spec o (.inr h0)
        have hec := ecnts_pos.1 c
        have hea := ecnts_pos.1 a
        have hT : (w.T.length : Int) + ecnt a + ecnt c ≤ 1000000 := by simp only [ecnt, ecnts] at hT; omega
        have had := exW_adds a ha w
        have iha := ih a (by simp) w ha (by omega)
        have n2 := refput_spec κ (exW a w) ⟨insOf o, 0, 0⟩ hr.1 hr.2
        have hT1 := had.T
        by_cases hlog : o = 23 ∨ o = 24
        · have hT2 := (putW_adds ⟨insOf o, 0, 0⟩ (exW a w)).T
          have ihc := ih c (by simp) (putW ⟨insOf o, 0, 0⟩ (exW a w)) hc (by omega)
          have hh := here_spec κ (exW c (putW ⟨insOf o, 0, 0⟩ (exW a w))) (putN (exW a w)) (log_at (exW_adds c hc _))
          simp only [exW, if_neg hno, if_pos hlog]
          obtain ⟨o', t', xs'⟩ := a
          obtain ⟨o2, t2, xs2⟩ := c
          (conv => whnf)
          refine splitB_f hov ?_
          rcases hlog with rfl | rfl
          all_goals
            repeat' ((conv => whnf); first | refine splitB_t rfl ?_ | refine splitB_f rfl ?_ | refine CallVC.same iha rfl rfl rfl ?_ | refine CallVC.same ihc rfl rfl rfl ?_ | refine CallVC.pureF hOf rfl ?_ | refine CallVC.same n2 rfl rfl rfl ?_ | refine CallVC.same hh rfl rfl rfl ?_ | refine ⟨rfl, enc (.mk o' t' xs'), ⟨by decide, rfl⟩, ?_⟩ | refine ⟨rfl, enc (.mk o2 t2 xs2), ⟨by decide, rfl⟩, ?_⟩ | exact ⟨rfl, rfl⟩)
        · have ihc := ih c (by simp) (exW a w) hc (by omega)
          have n3 := refput_spec κ (exW c (exW a w)) ⟨insOf o, 0, 0⟩ hr.1 hr.2
          simp only [exW, if_neg hno, if_neg hlog]
          obtain ⟨o', t', xs'⟩ := a
          obtain ⟨o2, t2, xs2⟩ := c
          (conv => whnf)
          refine splitB_f hov ?_
          rcases arity2 h0 with rfl | rfl | rfl | rfl | rfl | rfl | rfl | rfl | rfl | rfl | rfl | rfl | rfl | rfl | rfl | rfl
          all_goals first | (exfalso; omega) | skip
          all_goals
            repeat' ((conv => whnf); first | refine splitB_t rfl ?_ | refine splitB_f rfl ?_ | refine CallVC.same iha rfl rfl rfl ?_ | refine CallVC.same ihc rfl rfl rfl ?_ | refine CallVC.pureF hOf rfl ?_ | refine CallVC.same n3 rfl rfl rfl ?_ | (intro R hR; refine hR _ _ _ ?_) | refine ⟨rfl, enc (.mk o' t' xs'), ⟨by decide, rfl⟩, ?_⟩ | refine ⟨rfl, enc (.mk o2 t2 xs2), ⟨by decide, rfl⟩, ?_⟩ | refine hR _ _ _ ?_ | exact ⟨rfl, rfl⟩)

end Go.Proofs.Ythmlninecfjjgaa.AD

namespace Go.Proofs.Ythmlninecfjjgaa.AD
open Go.Proofs
set_option linter.unusedVariables false
set_option linter.unusedSimpArgs false
set_option maxRecDepth 100000

def tstW (t : Ex) (w : Ws) : Ws := putW ⟨28, 0, 0⟩ (exW t (putW ⟨29, 0, 0⟩ w))
def endW (n m : Int) (w : Ws) : Ws := hereW n (putW ⟨30, 0, 0⟩ (hereW m w))
mutual
def clW : Cl → Ws → Ws
  | .mk k t v l, w => endW (putN w) (putN (exW t (putW ⟨29, 0, 0⟩ w)))
      (if k = 1 then putW ⟨32, 0, 0⟩ (tstW t w) else if k = 2 then putW ⟨31, 0, 0⟩ (exW v (tstW t w)) else if k = 3 then clsW l (tstW t w) else tstW t w)
def clsW : List Cl → Ws → Ws
  | [], w => w
  | c :: r, w => if w.o = true then w else clsW r (clW c w)
end

theorem tstW_adds {t : Ex} (h : Shaped t) (w : Ws) : AddsW w (tstW t w) (ecnt t) := (((putW_adds ⟨29, 0, 0⟩ w).trans (exW_adds t h _)).trans (putW_adds ⟨28, 0, 0⟩ _)).more (by omega)
theorem endW_adds (n m : Int) (w : Ws) : AddsW w (endW n m w) 0 := ((((AddsW.refl w).here m).trans (putW_adds ⟨30, 0, 0⟩ _)).here n).more (by omega)

theorem clW_adds : (∀ c, checkC c = true → ∀ w, AddsW w (clW c w) (ccnt c)) ∧ ∀ l, checkL l = true → ∀ w, AddsW w (clsW l w) (ccnts l) := by
  have main : ∀ l : List Cl, (∀ c, c ∈ l → checkC c = true → ∀ w, AddsW w (clW c w) (ccnt c)) → checkL l = true → ∀ w, AddsW w (clsW l w) (ccnts l) := by
    intro l
    induction l with
    | nil => intro _ _ w; exact (AddsW.refl w).more (by simp [ccnts])
    | cons c r ih =>
      intro h hc w
      simp only [checkL, Bool.and_eq_true] at hc
      have h1 := h c (by simp) hc.1 w
      have h2 := ih (fun d hd => h d (by simp [hd])) hc.2 (clW c w)
      have p1 := ccnt_pos.1 c
      have p2 := ccnt_pos.2 r
      simp only [clsW, ccnts]
      split
      · exact (AddsW.refl w).more (by omega)
      · exact h1.trans h2
  have one : ∀ c, checkC c = true → ∀ w, AddsW w (clW c w) (ccnt c) := by
    intro c
    induction c using Cl.ind with
    | h k t v l ih =>
      intro hc w
      obtain ⟨s1, s2, s3⟩ := checkC_parts hc
      have h1 := tstW_adds s1 w
      have hv := ecnts_pos.1 v
      have hl := ccnt_pos.2 l
      simp only [clW]
      split
      · exact ((h1.trans (putW_adds _ _)).trans (endW_adds _ _ _)).more (by simp only [ccnt]; omega)
      · split
        · rename_i h2
          exact (((h1.trans (exW_adds v (s2 h2) _)).trans (putW_adds _ _)).trans (endW_adds _ _ _)).more (by simp only [ccnt]; omega)
        · split
          · exact ((h1.trans (main l ih s3 _)).trans (endW_adds _ _ _)).more (by simp only [ccnt]; omega)
          · exact (h1.trans (endW_adds _ _ _)).more (by simp only [ccnt]; omega)
  exact ⟨one, fun l => main l fun c _ => one c⟩

theorem k_of {k : Int} {t v : Ex} {l : List Cl} (h : checkC (.mk k t v l) = true) : k = 1 ∨ k = 2 ∨ k = 3 := by
  have := (checkC_k k t v l).2.2.2
  by_cases h3 : k < 1 ∨ k > 3
  · rw [this h3] at h; cases h
  · omega

set_option maxHeartbeats 4000000 in
theorem refclauses_ind (κ : Int) (l : List Cl) (hl : (l.length : Int) ≤ 9223372036854775807) (hf : ∀ c, c ∈ l → FitsC c) (hck : checkL l = true)
    (ih : ∀ k t v b, Cl.mk k t v b ∈ l → ∀ w : Ws, (w.T.length : Int) + ccnts b ≤ 1000000 → Meth Try.prog 37 [.ref (.b 0) 0, .p (.list 8 (encCs b))] (wos κ w) (.tup []) (wos κ (clsW b w)))
    (w : Ws) (hT : (w.T.length : Int) + ccnts l ≤ 1000000) : Meth Try.prog 37 [.ref (.b 0) 0, .p (.list 8 (encCs l))] (wos κ w) (.tup []) (wos κ (clsW l w)) := by
  have he := encCs_len l
  refine Meth.of f37_ok fun rest => ?_
  (conv => whnf)
  intro R hR
  have key : ∀ (r : List Cl) (i : Nat) (w1 : Ws), l.drop i = r → (w1.T.length : Int) + ccnts r ≤ 1000000 → clsW r w1 = clsW l w → R [(0, .ref (.b 0) 0), (1, .p (.list 8 (encCs l))), (4, .p (.int .i64 i))] (wos κ w1 ++ rest) [] := by
    intro r
    induction r with
    | nil =>
      intro i w1 hd g3 hq
      have hl := drop_nil hd
      refine hR _ _ _ ?_
      (conv => whnf)
      refine splitB_f (decide_eq_false (by omega)) ?_
      (conv => whnf)
      refine splitB_f rfl ?_
      exact ⟨rfl, by rw [← hq]; rfl⟩
    | cons a r ihr =>
      intro i w1 hd g3 hq
      obtain ⟨hg, hd', hi⟩ := drop_cons hd
      have hmem := List.mem_of_getElem? hg
      have hca := checkL_mem l hck a hmem
      have hpr := ccnt_pos.2 r
      have ha := clW_adds.1 a hca w1
      have haT := ha.T
      simp only [ccnts] at g3
      refine hR _ _ _ ?_
      (conv => whnf)
      refine splitB_t (decide_eq_true (by omega)) ?_
      rcases Bool.eq_false_or_eq_true w1.o with hov | hov
      · (conv => whnf)
        refine splitB_f (by rw [hov]; rfl) ?_
        exact ⟨rfl, by rw [← hq]; simp only [clsW, if_pos hov]⟩
      · have hno : ¬ w1.o = true := by rw [hov]; simp
        have hq : clsW r (clW a w1) = clsW l w := by rw [← hq]; simp only [clsW, if_neg hno]
        have hnext := ihr (i + 1) (clW a w1) hd' (by omega) hq
        obtain ⟨k, t, v, b⟩ := a
        obtain ⟨s1, s2, s3⟩ := checkC_parts hca
        have ihb := ih k t v b hmem
        have pt := ecnts_pos.1 t
        have pv := ecnts_pos.1 v
        have pb := ccnt_pos.2 b
        have g4 : (w1.T.length : Int) + ecnt t + ecnt v + ccnts b ≤ 1000000 := by simp only [ccnt] at g3; omega
        have u1 := (putW_adds ⟨29, 0, 0⟩ w1).T
        have u2 := (exW_adds t s1 (putW ⟨29, 0, 0⟩ w1)).T
        have u3 := (putW_adds ⟨28, 0, 0⟩ (exW t (putW ⟨29, 0, 0⟩ w1))).T
        have u4 : ((tstW t w1).T.length : Int) + ecnt v + ccnts b ≤ 1000000 := by rw [tstW]; omega
        have p1 := refput_spec κ w1 ⟨29, 0, 0⟩ (by decide) (by decide)
        have p2 := refexpr_spec κ t (putW ⟨29, 0, 0⟩ w1) s1 (by omega)
        have p3 := refput_spec κ (exW t (putW ⟨29, 0, 0⟩ w1)) ⟨28, 0, 0⟩ (by decide) (by decide)
        have tA := tstW_adds s1 w1
        have hm0 := exW_adds t s1 (putW ⟨29, 0, 0⟩ w1)
        have fin : ∀ (w4 : Ws) (n : Int), AddsW (tstW t w1) w4 n → Meth Try.prog 56 [.ref (.b 0) 0, .p (.int .i64 (putN (exW t (putW ⟨29, 0, 0⟩ w1))))] (wos κ w4) (.tup []) (wos κ (hereW (putN (exW t (putW ⟨29, 0, 0⟩ w1))) w4)) ∧
            Meth Try.prog 56 [.ref (.b 0) 0, .p (.int .i64 (putN w1))] (wos κ (putW ⟨30, 0, 0⟩ (hereW (putN (exW t (putW ⟨29, 0, 0⟩ w1))) w4))) (.tup []) (wos κ (endW (putN w1) (putN (exW t (putW ⟨29, 0, 0⟩ w1))) w4)) := by
          intro w4 n h4
          refine ⟨here_spec κ w4 _ (log_at h4), here_spec κ _ _ ?_⟩
          have h5 : AddsW (putW ⟨29, 0, 0⟩ w1) (tstW t w1) (ecnt t) := ((exW_adds t s1 _).trans (putW_adds ⟨28, 0, 0⟩ _)).more (by omega)
          exact log_at ((h5.trans (h4.here _)).trans (putW_adds ⟨30, 0, 0⟩ _))
        have hdef : clW (.mk k t v b) w1 = endW (putN w1) (putN (exW t (putW ⟨29, 0, 0⟩ w1))) (if k = 1 then putW ⟨32, 0, 0⟩ (tstW t w1) else if k = 2 then putW ⟨31, 0, 0⟩ (exW v (tstW t w1)) else if k = 3 then clsW b (tstW t w1) else tstW t w1) := rfl
        obtain ⟨o, tt, xs⟩ := t
        obtain ⟨o2, t2, xs2⟩ := v
        (conv => whnf)
        refine splitB_t (by rw [hov]; rfl) ?_
        (conv => whnf)
        refine ⟨rfl, encC (.mk k (.mk o tt xs) (.mk o2 t2 xs2) b), ⟨by omega, encCs_get hg⟩, ?_⟩
        (conv => whnf)
        refine CallVC.same p1 rfl rfl rfl ?_
        (conv => whnf)
        refine CallVC.same p2 rfl rfl rfl ?_
        (conv => whnf)
        refine CallVC.same p3 rfl rfl rfl ?_
        (conv => whnf)
        rcases k_of hca with rfl | rfl | rfl
        · refine splitB_t rfl ?_
          (conv => whnf)
          refine CallVC.same (refput_spec κ (tstW (.mk o tt xs) w1) ⟨32, 0, 0⟩ (by decide) (by decide)) rfl rfl rfl ?_
          obtain ⟨h1, h2⟩ := fin (putW ⟨32, 0, 0⟩ (tstW (.mk o tt xs) w1)) _ (putW_adds _ _)
          have p9 := refput_spec κ (hereW (putN (exW (.mk o tt xs) (putW ⟨29, 0, 0⟩ w1))) (putW ⟨32, 0, 0⟩ (tstW (.mk o tt xs) w1))) ⟨30, 0, 0⟩ (by decide) (by decide)
          (conv => whnf)
          refine CallVC.same h1 rfl rfl rfl ?_
          (conv => whnf)
          refine CallVC.same p9 rfl rfl rfl ?_
          (conv => whnf)
          refine CallVC.same h2 rfl rfl rfl ?_
          (conv => whnf)
          rw [IntWalk.i64_in _ (by omega)]
          exact hnext
        · refine splitB_f rfl ?_
          (conv => whnf)
          refine splitB_t rfl ?_
          (conv => whnf)
          refine CallVC.same (refexpr_spec κ (.mk o2 t2 xs2) (tstW (.mk o tt xs) w1) (s2 rfl) (by omega)) rfl rfl rfl ?_
          (conv => whnf)
          refine CallVC.same (refput_spec κ (exW (.mk o2 t2 xs2) (tstW (.mk o tt xs) w1)) ⟨31, 0, 0⟩ (by decide) (by decide)) rfl rfl rfl ?_
          obtain ⟨h1, h2⟩ := fin (putW ⟨31, 0, 0⟩ (exW (.mk o2 t2 xs2) (tstW (.mk o tt xs) w1))) _ ((exW_adds _ (s2 rfl) _).trans (putW_adds _ _))
          have p9 := refput_spec κ (hereW (putN (exW (.mk o tt xs) (putW ⟨29, 0, 0⟩ w1))) (putW ⟨31, 0, 0⟩ (exW (.mk o2 t2 xs2) (tstW (.mk o tt xs) w1)))) ⟨30, 0, 0⟩ (by decide) (by decide)
          (conv => whnf)
          refine CallVC.same h1 rfl rfl rfl ?_
          (conv => whnf)
          refine CallVC.same p9 rfl rfl rfl ?_
          (conv => whnf)
          refine CallVC.same h2 rfl rfl rfl ?_
          (conv => whnf)
          rw [IntWalk.i64_in _ (by omega)]
          exact hnext
        · refine splitB_f rfl ?_
          (conv => whnf)
          refine splitB_f rfl ?_
          (conv => whnf)
          refine splitB_t rfl ?_
          (conv => whnf)
          refine CallVC.same (ihb (tstW (.mk o tt xs) w1) (by omega)) rfl rfl rfl ?_
          obtain ⟨h1, h2⟩ := fin (clsW b (tstW (.mk o tt xs) w1)) _ (clW_adds.2 b s3 _)
          have p9 := refput_spec κ (hereW (putN (exW (.mk o tt xs) (putW ⟨29, 0, 0⟩ w1))) (clsW b (tstW (.mk o tt xs) w1))) ⟨30, 0, 0⟩ (by decide) (by decide)
          (conv => whnf)
          refine CallVC.same h1 rfl rfl rfl ?_
          (conv => whnf)
          refine CallVC.same p9 rfl rfl rfl ?_
          (conv => whnf)
          refine CallVC.same h2 rfl rfl rfl ?_
          (conv => whnf)
          rw [IntWalk.i64_in _ (by omega)]
          exact hnext
  exact key l 0 w rfl hT rfl

theorem refclauses_all (κ : Int) (c : Cl) : FitsC c → checkC c = true → ∀ k t v b, c = .mk k t v b → ∀ w : Ws, (w.T.length : Int) + ccnts b ≤ 1000000 → Meth Try.prog 37 [.ref (.b 0) 0, .p (.list 8 (encCs b))] (wos κ w) (.tup []) (wos κ (clsW b w)) := by
  induction c using Cl.ind with
  | h k t v b ih =>
    intro hf hc k' t' v' b' e
    cases e
    have h3 := (checkC_parts hc).2.2
    cases hf with
    | mk _ _ _ _ _ _ _ h1 h2 => exact refclauses_ind κ b h1 h2 h3 fun k2 t2 v2 b2 hm => ih _ hm (h2 _ hm) (checkL_mem b h3 _ hm) k2 t2 v2 b2 rfl
theorem refclauses_spec (κ : Int) (l : List Cl) (hl : (l.length : Int) ≤ 9223372036854775807) (hf : ∀ c, c ∈ l → FitsC c) (hck : checkL l = true) (w : Ws) (hT : (w.T.length : Int) + ccnts l ≤ 1000000) :
    Meth Try.prog 37 [.ref (.b 0) 0, .p (.list 8 (encCs l))] (wos κ w) (.tup []) (wos κ (clsW l w)) :=
  refclauses_ind κ l hl hf hck (fun k t v b hm => refclauses_all κ _ (hf _ hm) (checkL_mem l hck _ hm) k t v b rfl) w hT

/-! ### the two write the same -/
theorem landB_big (n : Nat) {b : Bs} (h : Big b) : Big (landB n b) := by
  rcases h with h | h
  · exact .inl (by rw [landB_len]; exact h)
  · exact .inr (by rw [landB_T]; exact h)
theorem exB_big (e : Ex) : ∀ b, Big b → Big (exB e b) := by
  induction e using Ex.ind with
  | h o t xs ih =>
    intro b h
    match xs, ih with
    | [], _ => simp only [exB]; (repeat' split) <;> first | exact namedB_big _ _ h | exact putB_big _ h | exact h
    | [a], ih => simp only [exB]; exact putB_big _ (ih a (by simp) b h)
    | [a, c], ih =>
      simp only [exB]
      split
      · exact landB_big _ (ih c (by simp) _ (putB_big _ (ih a (by simp) b h)))
      · exact putB_big _ (ih c (by simp) _ (ih a (by simp) b h))
    | _ :: _ :: _ :: _, _ => exact h

theorem sim_land {n : Nat} {m : Int} {b : Bs} {w : Ws} (h : Sim b w) (hn : w.o = false → m = n ∧ n < w.C.length) : Sim (landB n b) (hereW m w) := by
  rcases h with ⟨h0, h1, h2, h3, h4⟩ | ⟨h0, h1⟩
  · obtain ⟨g1, g2⟩ := hn h0
    refine .inl ?_
    rw [hereW, if_neg (by rw [h0]; simp)]
    refine ⟨h0, h1, ?_, h3, h4⟩
    simp only [landB, h2, g1, Int.toNat_natCast]
    rw [Nat.min_eq_left (by omega)]
  · exact .inr ⟨by rw [hereW_o]; exact h0, landB_big _ h1⟩

/-- Where a leap stands. -/
theorem sim_at {x : Ins} {b : Bs} {w w' : Ws} {n : Int} (h : Sim b w) (ha : AddsW (putW x w) w' n) : w'.o = false → putN w = b.C.length ∧ b.C.length < w'.C.length := by
  intro e
  have h1 := ha.up e
  have h2 := putW_not h1.1
  rcases h with ⟨h0, g1, g2, g3, g4⟩ | ⟨h0, _⟩
  · rw [g2]; exact ⟨h2.1, by omega⟩
  · rw [h2.2.2] at h0; cases h0

theorem sim_over {b : Bs} {w : Ws} (h : Sim b w) (ho : w.o = true) : Big b := by
  rcases h with ⟨h0, _⟩ | ⟨_, h1⟩
  · rw [h0] at ho; cases ho
  · exact h1

theorem sim_ex (e : Ex) : Shaped e → ∀ b w, Sim b w → Sim (exB e b) (exW e w) := by
  induction e using Ex.ind with
  | h o t xs ih =>
    intro hs b w h
    by_cases hov : w.o = true
    · rw [exW_over _ _ hov]; exact .inr ⟨hov, exB_big _ _ (sim_over h hov)⟩
    · rcases hs.args with ⟨h0, rfl⟩ | ⟨h0, a, rfl, ha⟩ | ⟨h0, a, c, rfl, ha, hc⟩
      · simp only [exB, exW, if_neg hov]
        rcases arity0 h0 with rfl | rfl | rfl | rfl | rfl | rfl <;> simp only [Int.reduceEq, if_true, if_false] <;> first | exact sim_named _ _ h | exact sim_put _ h
      · simp only [exB, exW, if_neg hov]
        exact sim_put _ (ih a (by simp) ha b w h)
      · have h1 := ih a (by simp) ha b w h
        simp only [exB, exW, if_neg hov]
        by_cases hl : o = 23 ∨ o = 24
        · rw [if_pos hl, if_pos hl]
          exact sim_land (ih c (by simp) hc _ _ (sim_put _ h1)) (sim_at h1 (exW_adds c hc _))
        · rw [if_neg hl, if_neg hl]
          exact sim_put _ (ih c (by simp) hc _ _ h1)

theorem endB_big (n m : Nat) {b : Bs} (h : Big b) : Big (endB n m b) := landB_big _ (putB_big _ (landB_big _ h))
theorem clB_big : (∀ c b, Big b → Big (clB c b)) ∧ ∀ l b, Big b → Big (clsB l b) := by
  have main : ∀ l : List Cl, (∀ c, c ∈ l → ∀ b, Big b → Big (clB c b)) → ∀ b, Big b → Big (clsB l b) := by
    intro l
    induction l with
    | nil => intro _ b h; exact h
    | cons c r ih => intro h b hb; exact ih (fun d hd => h d (by simp [hd])) _ (h c (by simp) b hb)
  have one : ∀ c b, Big b → Big (clB c b) := by
    intro c
    induction c using Cl.ind with
    | h k t v l ih =>
      intro b hb
      have h1 : Big (tstB t b) := putB_big _ (exB_big _ _ (putB_big _ hb))
      simp only [clB]
      refine endB_big _ _ ?_
      (repeat' split) <;> first | exact putB_big _ h1 | exact putB_big _ (exB_big _ _ h1) | exact main l ih _ h1 | exact h1
  exact ⟨one, fun l => main l fun c _ => one c⟩

theorem sim_cls : (∀ c, checkC c = true → ∀ b w, Sim b w → w.o = false → Sim (clB c b) (clW c w)) ∧ ∀ l, checkL l = true → ∀ b w, Sim b w → Sim (clsB l b) (clsW l w) := by
  have main : ∀ l : List Cl, (∀ c, c ∈ l → checkC c = true → ∀ b w, Sim b w → w.o = false → Sim (clB c b) (clW c w)) → checkL l = true → ∀ b w, Sim b w → Sim (clsB l b) (clsW l w) := by
    intro l
    induction l with
    | nil => intro _ _ b w h; exact h
    | cons c r ih =>
      intro h hc b w hs
      simp only [checkL, Bool.and_eq_true] at hc
      simp only [clsB, clsW]
      by_cases hov : w.o = true
      · rw [if_pos hov]
        exact .inr ⟨hov, clB_big.2 r _ (clB_big.1 c b (sim_over hs hov))⟩
      · rw [if_neg hov]
        exact ih (fun d hd => h d (by simp [hd])) hc.2 _ _ (h c (by simp) hc.1 b w hs (by simpa using hov))
  have one : ∀ c, checkC c = true → ∀ b w, Sim b w → w.o = false → Sim (clB c b) (clW c w) := by
    intro c
    induction c using Cl.ind with
    | h k t v l ih =>
      intro hc b w h hov
      obtain ⟨s1, s2, s3⟩ := checkC_parts hc
      have g1 := sim_put ⟨29, 0, 0⟩ h
      have g2 := sim_ex t s1 _ _ g1
      have g3 : Sim (tstB t b) (tstW t w) := sim_put ⟨28, 0, 0⟩ g2
      have a3 : AddsW (putW ⟨29, 0, 0⟩ w) (tstW t w) (ecnt t) := ((exW_adds t s1 _).trans (putW_adds ⟨28, 0, 0⟩ _)).more (by omega)
      have fin : ∀ (b4 : Bs) (w4 : Ws) (n : Int), Sim b4 w4 → AddsW (tstW t w) w4 n → Sim (endB b.C.length (exB t (putB ⟨29, 0, 0⟩ b)).C.length b4) (endW (putN w) (putN (exW t (putW ⟨29, 0, 0⟩ w))) w4) := by
        intro b4 w4 n h4 a4
        have h5 := sim_land h4 (sim_at g2 a4)
        exact sim_land (sim_put ⟨30, 0, 0⟩ h5) (sim_at h ((a3.trans (a4.here _)).trans (putW_adds ⟨30, 0, 0⟩ _)))
      simp only [clB, clW]
      by_cases k1 : k = 1
      · rw [if_pos k1, if_pos k1]; exact fin _ _ _ (sim_put _ g3) (putW_adds _ _)
      · rw [if_neg k1, if_neg k1]
        by_cases k2 : k = 2
        · rw [if_pos k2, if_pos k2]; exact fin _ _ _ (sim_put _ (sim_ex v (s2 k2) _ _ g3)) ((exW_adds v (s2 k2) _).trans (putW_adds _ _))
        · rw [if_neg k2, if_neg k2]
          by_cases k3 : k = 3
          · rw [if_pos k3, if_pos k3]; exact fin _ _ _ (main l ih s3 _ _ g3) (clW_adds.2 l s3 _)
          · rw [if_neg k3, if_neg k3]; exact fin _ _ _ g3 (AddsW.refl _)
  exact ⟨one, fun l => main l fun c _ => one c⟩

end Go.Proofs.Ythmlninecfjjgaa.AD

namespace Go.Proofs.Ythmlninecfjjgaa.AD
open Go.Proofs
set_option linter.unusedVariables false
set_option linter.unusedSimpArgs false
set_option maxRecDepth 100000

def b0 : Bs := ⟨[], [], 0, 0⟩
def w0 : Ws := ⟨[], [], 0, 0, false⟩
def finC (l : List Cl) : Bs := putB ⟨33, 0, 0⟩ (clsB l b0)
def finL (e : Li) : Bs := putB ⟨38, 0, 0⟩ (licB e b0)
def nilPg : PV := .agg [.int .u8 0, .nils, .nils, .int .i64 0]
/-- Beyond a limit. -/
def limB (κ : Int) (b : Bs) : Prop := errP κ b.T b.C b.S = 3 ∨ (κ = 1 ∧ 1024 < b.S)
instance (κ : Int) (b : Bs) : Decidable (limB κ b) := inferInstanceAs (Decidable (_ ∨ _))
def condsR (l : List Cl) : PV := if clsT l = 0 then (if limB 1 (finC l) then .tup [nilPg, .int .i64 3] else .tup [encPg 1 (finC l).T (finC l).C (finC l).S, .int .i64 0]) else .tup [nilPg, .int .i64 (clsT l)]
def licsR (e : Li) : PV := if chkLi e = true then (if limB 2 (finL e) then .tup [nilPg, .int .i64 3] else .tup [encPg 2 (finL e).T (finL e).C (finL e).S, .int .i64 0]) else .tup [nilPg, .int .i64 151]

theorem nil_pg : Flat nilPg := .agg _ fun c hc => by
  simp only [List.mem_cons, List.mem_nil_iff, or_false] at hc
  rcases hc with rfl | rfl | rfl | rfl
  · exact .int _ _
  · exact .nils
  · exact .nils
  · exact .int _ _
theorem nil_tup (n : Int) : Flat (.tup [nilPg, .int .i64 n]) := .tup _ fun c hc => by
  simp only [List.mem_cons, List.mem_nil_iff, or_false] at hc
  rcases hc with rfl | rfl
  · exact nil_pg
  · exact .int _ _
theorem tP_flat (T : List ByteArray) : ∀ e, e ∈ tP T → Flat e := fun e he => by
  rw [tP, List.mem_map] at he
  obtain ⟨t, _, rfl⟩ := he
  exact .str _
theorem cP_flat (C : List Ins) : ∀ e, e ∈ cP C → Flat e := fun e he => by
  rw [cP, List.mem_map] at he
  obtain ⟨x, _, rfl⟩ := he
  exact .agg _ fun c hc => by
    simp only [List.mem_cons, List.mem_nil_iff, or_false] at hc
    rcases hc with rfl | rfl | rfl <;> exact .int _ _
theorem mP_flat : ∀ (T : List ByteArray) (i : Nat), ∀ e, e ∈ mP i T → Flat e.1 ∧ Flat e.2
  | [], i, e, h => by cases h
  | t :: r, i, e, h => by
    simp only [mP, List.mem_cons] at h
    rcases h with rfl | h
    · exact ⟨.str _, .int _ _⟩
    · exact mP_flat r _ e h

theorem finC_bounds (l : List Cl) (hck : checkL l = true) (hcnt : ccnts l ≤ 20000) : (finC l).T.length ≤ 20000 ∧ (finC l).C.length ≤ 32769 := by
  obtain ⟨h1, h2, h3⟩ := clB_adds.2 l hck b0
  have e0 : (b0.T.length : Int) = 0 := rfl
  have e1 : b0.C.length = 0 := rfl
  have h4 := putB_len ⟨33, 0, 0⟩ (clsB l b0)
  exact ⟨by show (clsB l b0).T.length ≤ 20000; omega, (h4.2 (h3 (by omega))).1⟩
theorem licB_lim : (∀ e b, b.C.length ≤ 32769 → (licB e b).C.length ≤ 32769) ∧ ∀ l b, b.C.length ≤ 32769 → (licsB l b).C.length ≤ 32769 := by
  have main : ∀ l : List Li, (∀ a, a ∈ l → ∀ b, b.C.length ≤ 32769 → (licB a b).C.length ≤ 32769) → ∀ b, b.C.length ≤ 32769 → (licsB l b).C.length ≤ 32769 := by
    intro l
    induction l with
    | nil => intro _ b h; exact h
    | cons a r ih => intro h b hb; exact ih (fun c hc => h c (by simp [hc])) _ (h a (by simp) b hb)
  have one : ∀ e b, b.C.length ≤ 32769 → (licB e b).C.length ≤ 32769 := by
    intro e
    induction e using Li.ind with
    | h o t k xs ih =>
      intro b hb
      have h1 := main xs ih b hb
      simp only [licB]
      (repeat' split) <;> first | exact ((namedB_len _ _ _).2 hb).1 | exact ((putB_len _ _).2 h1).1
  exact ⟨one, fun l => main l fun a _ => one a⟩
theorem finL_bounds (e : Li) (hcnt : lcnt e ≤ 20000) : (finL e).T.length ≤ 20000 ∧ (finL e).C.length ≤ 32769 := by
  have h1 := licB_T.1 e b0
  have e0 : (b0.T.length : Int) = 0 := rfl
  exact ⟨by show (licB e b0).T.length ≤ 20000; omega, ((putB_len _ _).2 (licB_lim.1 e b0 (by simp [b0]))).1⟩


def condsOs (l : List Cl) : List Ob := [.cells [.p (.int .u8 1), .view (.l 3) (finC l).T.length 1 (finC l).T.length, .view (.l 4) (finC l).C.length 3 (finC l).C.length, .p (.int .i64 (finC l).S)], .map (mP 0 (finC l).T), .cells [.p (.int .u8 1), .view (.l 3) (finC l).T.length 1 (finC l).T.length, .view (.l 4) (finC l).C.length 3 (finC l).C.length, .p (.int .i64 (finC l).S), .mapr (.l 1), .p (.int .i64 (finC l).h)], .buf (finC l).T.length 1 (tP (finC l).T), .buf (finC l).C.length 3 (cP (finC l).C), .cells [.p (.int .u8 1), .view (.l 3) (finC l).T.length 1 (finC l).T.length, .view (.l 4) (finC l).C.length 3 (finC l).C.length, .p (.int .i64 (finC l).S)]]
def condsRv (l : List Cl) : AV := .tup [.agg [.p (.int .u8 1), .view (.l 3) (finC l).T.length 1 (finC l).T.length, .view (.l 4) (finC l).C.length 3 (finC l).C.length, .p (.int .i64 (finC l).S)], .p (.int .i64 0)]

set_option maxHeartbeats 4000000 in
theorem Conds_K (l : List Cl) (hl : (l.length : Int) ≤ 9223372036854775807) (hf : ∀ c, c ∈ l → FitsC c) (hcnt : ccnts l ≤ 20000) (K : AV → List Ob → List Ob → Prop)
    (k1 : clsT l ≠ 0 → ∀ os, K (.p (.tup [nilPg, .int .i64 (clsT l)])) [] os) (k2 : clsT l = 0 → limB 1 (finC l) → ∀ os, K (.p (.tup [nilPg, .int .i64 3])) [] os)
    (k3 : clsT l = 0 → ¬ limB 1 (finC l) → K (condsRv l) [] (condsOs l)) : CallVC Try.prog 19 [.p (.list 8 (encCs l))] [] [] K := by
  have hcl := Clauses_spec l hl hf
  have he := encCs_len l
  refine CallVC.inline f19_ok ?_
  (conv => whnf)
  refine CallVC.pureF hcl rfl ?_
  (conv => whnf)
  by_cases h0 : clsT l = 0
  · have hck : checkL l = true := by
      rw [clsT] at h0
      split at h0
      · assumption
      · cases h0
    obtain ⟨hBT, hBC⟩ := finC_bounds l hck hcnt
    have hcc := codeCheck_spec 1 (finC l).T (finC l).C (finC l).S (by omega) (by omega)
    rw [h0]
    refine splitB_f rfl ?_
    (conv => whnf)
    refine CallVC.ghostP 2 2 3 ?_
    refine CallVC.ghostP 2 1 1 ?_
    refine CallVC.inline f30_ok ?_
    (conv => whnf)
    refine ⟨_, rfl, rfl, _, rfl, rfl, ?_⟩
    (conv => whnf)
    intro R hR
    have key : ∀ (r : List Cl) (i : Nat) (b4 : Bs), l.drop i = r → b4.C.length ≤ 32769 → (b4.T.length : Int) + ccnts r ≤ 1000000 → clsB r b4 = clsB l b0 → R [(2, .ref (.l 0) 0), (5, .ref (.l 2) 0), (15, .p (.list 8 (encCs l))), (16, .p (.int .i64 (encCs l).length)), (17, .p (.int .i64 i))] [] [.cells [.p (.int .u8 0), .p .nils, .p .nils, .p (.int .i64 0)], .map (mP 0 b4.T), .cells [.p (.int .u8 1), .view (.l 3) b4.T.length 1 b4.T.length, .view (.l 4) b4.C.length 3 b4.C.length, .p (.int .i64 b4.S), .mapr (.l 1), .p (.int .i64 b4.h)], .buf b4.T.length 1 (tP b4.T), .buf b4.C.length 3 (cP b4.C)] := by
      intro r
      induction r with
      | nil =>
        intro i b4 hd g2 g3 hq
        have hl := drop_nil hd
        have hq : b4 = clsB l b0 := hq
        subst hq
        refine hR _ _ _ ?_
        (conv => whnf)
        refine splitB_f (decide_eq_false (by omega)) ?_
        (conv => whnf)
        refine CallVC.methM' [2, 3, 4, 1, 0] 5 [.cells [.p (.int .u8 0), .p .nils, .p .nils, .p (.int .i64 0)], .map (mP 0 (finC l).T), .cells [.p (.int .u8 1), .view (.l 3) (finC l).T.length 1 (finC l).T.length, .view (.l 4) (finC l).C.length 3 (finC l).C.length, .p (.int .i64 (finC l).S), .mapr (.l 1), .p (.int .i64 (finC l).h)], .buf (finC l).T.length 1 (tP (finC l).T), .buf (finC l).C.length 3 (cP (finC l).C)] (op_spec 1 (clsB l b0) 33) rfl rfl rfl rfl rfl (by decide) (by decide) rfl ?_
        (conv => whnf)
        refine CallVC.inline f33_ok ?_
        (conv => whnf)
        refine CallVC.lend (ps := [encPg 1 (finC l).T (finC l).C (finC l).S]) hcc (.int _ _) (.cons _ _ _ _ (.agg _ _ rfl fun j c p hc hp => ?_) .nil) ?_
        · match j, hc, hp with
          | 0, hc, hp => cases hc; cases hp; exact .p _
          | 1, hc, hp => cases hc; cases hp; exact Lend.all _ _ _ _ rfl (tP_len _).symm
          | 2, hc, hp => cases hc; cases hp; exact Lend.all _ _ _ _ rfl (cP_len _).symm
          | 3, hc, hp => cases hc; cases hp; exact .p _
        (conv => whnf)
        by_cases her : errP 1 (finC l).T (finC l).C (finC l).S = 3
        · have q := fun os => k2 h0 (.inl her) os
          refine splitB_t (beq_iff_eq.2 her) ?_
          (conv => whnf)
          refine splitB_t rfl ?_
          (conv => whnf)
          exact q _
        · refine splitB_f (beq_eq_false_iff_ne.2 her) ?_
          (conv => whnf)
          refine splitB_t rfl ?_
          (conv => whnf)
          refine splitB_dec (fun hS => ?_) (fun hS => ?_)
          · have q := fun os => k2 h0 (.inr ⟨rfl, by omega⟩) os
            (conv => whnf)
            exact q _
          · have q := k3 h0 (fun h => by rcases h with h | ⟨_, h⟩; exact her h; omega)
            (conv => whnf)
            exact q
      | cons a r ihr =>
        intro i b4 hd g2 g3 hq
        obtain ⟨hg, hd', hi⟩ := drop_cons hd
        have hmem := List.mem_of_getElem? hg
        have hca := checkL_mem l hck a hmem
        have ha := clB_adds.1 a hca b4
        have hpr := ccnt_pos.2 r
        simp only [ccnts] at g3
        have haT := ha.T
        have haC := ha.lim g2
        have iha := clause_spec 1 a b4 hca (hf a hmem) (by omega) g2
        refine hR _ _ _ ?_
        (conv => whnf)
        refine splitB_t (decide_eq_true (by omega)) ?_
        (conv => whnf)
        obtain ⟨k', ⟨o', t', xs'⟩, ⟨o3, t3, xs3⟩, l'⟩ := a
        refine ⟨rfl, encC (.mk k' (.mk o' t' xs') (.mk o3 t3 xs3) l'), ⟨by omega, encCs_get hg⟩, ?_⟩
        (conv => whnf)
        refine CallVC.methM' [2, 3, 4, 1, 0, 5] 6 [.cells [.p (.int .u8 0), .p .nils, .p .nils, .p (.int .i64 0)], .map (mP 0 (clB (.mk k' (.mk o' t' xs') (.mk o3 t3 xs3) l') b4).T), .cells [.p (.int .u8 1), .view (.l 3) (clB (.mk k' (.mk o' t' xs') (.mk o3 t3 xs3) l') b4).T.length 1 (clB (.mk k' (.mk o' t' xs') (.mk o3 t3 xs3) l') b4).T.length, .view (.l 4) (clB (.mk k' (.mk o' t' xs') (.mk o3 t3 xs3) l') b4).C.length 3 (clB (.mk k' (.mk o' t' xs') (.mk o3 t3 xs3) l') b4).C.length, .p (.int .i64 (clB (.mk k' (.mk o' t' xs') (.mk o3 t3 xs3) l') b4).S), .mapr (.l 1), .p (.int .i64 (clB (.mk k' (.mk o' t' xs') (.mk o3 t3 xs3) l') b4).h)], .buf (clB (.mk k' (.mk o' t' xs') (.mk o3 t3 xs3) l') b4).T.length 1 (tP (clB (.mk k' (.mk o' t' xs') (.mk o3 t3 xs3) l') b4).T), .buf (clB (.mk k' (.mk o' t' xs') (.mk o3 t3 xs3) l') b4).C.length 3 (cP (clB (.mk k' (.mk o' t' xs') (.mk o3 t3 xs3) l') b4).C), .cells [.p (.int .u8 k'), .p (.int .u8 o'), .p (.str t'), .p (.list 3 (encs xs')), .p (.int .u8 o3), .p (.str t3), .p (.list 3 (encs xs3)), .p (.list 8 (encCs l'))]] iha rfl rfl rfl rfl rfl (by decide) (by decide) rfl ?_
        (conv => whnf)
        rw [IntWalk.i64_in _ (by omega)]
        exact ihr (i + 1) _ hd' haC.1 (by omega) hq
    have p2 := ccnt_pos.2 l
    exact key l 0 b0 rfl (by simp [b0]) (by simp [b0]; omega) rfl
  · have q := k1 h0
    refine splitB_t (bne_iff_ne.2 h0) ?_
    exact q _

theorem Conds_own (l : List Cl) (hl : (l.length : Int) ≤ 9223372036854775807) (hf : ∀ c, c ∈ l → FitsC c) (hcnt : ccnts l ≤ 20000) (h0 : clsT l = 0) (h1 : ¬ limB 1 (finC l)) :
    CallVC Try.prog 19 ([.list 8 (encCs l)].map .p) [] [] fun r b os => r = condsRv l ∧ os = condsOs l :=
  Conds_K l hl hf hcnt _ (fun h => absurd h0 h) (fun _ h => absurd h h1) fun _ _ => ⟨rfl, rfl⟩

theorem prog_lend (κ S : Int) (i j : Nat) (os : List Ob) (T : List ByteArray) (C : List Ins) (h1 : os[i]? = some (.buf T.length 1 (tP T))) (h2 : os[j]? = some (.buf C.length 3 (cP C))) :
    LendF os (.tup [.agg [.p (.int .u8 κ), .view (.l i) T.length 1 T.length, .view (.l j) C.length 3 C.length, .p (.int .i64 S)], .p (.int .i64 0)]) (.tup [encPg κ T C S, .int .i64 0]) := by
  refine .tup _ _ rfl fun n c p hc hp => ?_
  match n, hc, hp with
  | 0, hc, hp =>
    cases hc; cases hp
    refine .agg _ _ rfl fun n c p hc hp => ?_
    match n, hc, hp with
    | 0, hc, hp => cases hc; cases hp; exact .p _ (.int _ _)
    | 1, hc, hp => cases hc; cases hp; exact .view _ _ _ _ _ h1 (tP_len T).symm (tP_flat T)
    | 2, hc, hp => cases hc; cases hp; exact .view _ _ _ _ _ h2 (cP_len C).symm (cP_flat C)
    | 3, hc, hp => cases hc; cases hp; exact .p _ (.int _ _)
  | 1, hc, hp => cases hc; cases hp; exact .p _ (.int _ _)

theorem Conds_pure (l : List Cl) (hl : (l.length : Int) ≤ 9223372036854775807) (hf : ∀ c, c ∈ l → FitsC c) (hcnt : ccnts l ≤ 20000) : pureF Try.prog 19 [.p (.list 8 (encCs l))] (.p (condsR l)) := by
  refine pureF_fresh (ps := [.list 8 (encCs l)]) (Conds_K l hl hf hcnt _ (fun h os => ?_) (fun h0 h os => ?_) fun h0 h => ?_)
  · rw [condsR, if_neg h]; exact .p _ (nil_tup _)
  · rw [condsR, if_pos h0, if_pos h]; exact .p _ (nil_tup _)
  · rw [condsR, if_pos h0, if_neg h]
    exact prog_lend 1 _ 3 4 _ _ _ rfl rfl

set_option maxHeartbeats 4000000 in
theorem Lics_pure (e : Li) (hfit : FitsL e) (hcnt : lcnt e ≤ 20000) : pureF Try.prog 12 [.p (encL e)] (.p (licsR e)) := by
  refine pureF_fresh (ps := [encL e]) ?_
  have hck := licsCheck_spec e hfit
  obtain ⟨hBT, hBC⟩ := finL_bounds e hcnt
  have hcc := codeCheck_spec 2 (finL e).T (finL e).C (finL e).S (by omega) (by omega)
  have hlic := lic_spec 2 e b0 hfit (by simp [b0]; omega)
  have fin : ∀ r os, chkLi e = true → limB 2 (finL e) → r = .p (.tup [nilPg, .int .i64 3]) → LendF os r (licsR e) := fun r os h1 h2 h3 => by
    rw [licsR, if_pos h1, if_pos h2, h3]; exact .p _ (nil_tup _)
  have fin2 : ∀ r os, chkLi e = false → r = .p (.tup [nilPg, .int .i64 151]) → LendF os r (licsR e) := fun r os h1 h3 => by
    rw [licsR, if_neg (by rw [h1]; simp), h3]; exact .p _ (nil_tup _)
  obtain ⟨o, t, k, xs⟩ := e
  refine CallVC.inline f12_ok ?_
  (conv => whnf)
  refine CallVC.pureF hck rfl ?_
  cases hchk : chkLi (.mk o t k xs) with
  | false =>
    (conv => whnf)
    refine splitB_t rfl ?_
    (conv => whnf)
    exact fin2 _ _ hchk rfl
  | true =>
    (conv => whnf)
    refine splitB_f rfl ?_
    (conv => whnf)
    refine CallVC.ghostP 3 2 3 ?_
    refine CallVC.ghostP 3 1 1 ?_
    refine CallVC.inline f30_ok ?_
    (conv => whnf)
    refine ⟨_, rfl, rfl, _, rfl, rfl, ?_⟩
    (conv => whnf)
    refine CallVC.methM' [3, 4, 5, 2, 0, 1] 6 [.cells [.p (.int .u8 o), .p (.str t), .p (.int .i64 k), .p (.list 4 (encLs xs))], .cells [.p (.int .u8 0), .p .nils, .p .nils, .p (.int .i64 0)], .map (mP 0 (licB (.mk o t k xs) b0).T), .cells [.p (.int .u8 2), .view (.l 4) (licB (.mk o t k xs) b0).T.length 1 (licB (.mk o t k xs) b0).T.length, .view (.l 5) (licB (.mk o t k xs) b0).C.length 3 (licB (.mk o t k xs) b0).C.length, .p (.int .i64 (licB (.mk o t k xs) b0).S), .mapr (.l 2), .p (.int .i64 (licB (.mk o t k xs) b0).h)], .buf (licB (.mk o t k xs) b0).T.length 1 (tP (licB (.mk o t k xs) b0).T), .buf (licB (.mk o t k xs) b0).C.length 3 (cP (licB (.mk o t k xs) b0).C)] hlic rfl rfl rfl rfl rfl (by decide) (by decide) rfl ?_
    (conv => whnf)
    refine CallVC.methM' [3, 4, 5, 2, 0, 1] 6 [.cells [.p (.int .u8 o), .p (.str t), .p (.int .i64 k), .p (.list 4 (encLs xs))], .cells [.p (.int .u8 0), .p .nils, .p .nils, .p (.int .i64 0)], .map (mP 0 (finL (.mk o t k xs)).T), .cells [.p (.int .u8 2), .view (.l 4) (finL (.mk o t k xs)).T.length 1 (finL (.mk o t k xs)).T.length, .view (.l 5) (finL (.mk o t k xs)).C.length 3 (finL (.mk o t k xs)).C.length, .p (.int .i64 (finL (.mk o t k xs)).S), .mapr (.l 2), .p (.int .i64 (finL (.mk o t k xs)).h)], .buf (finL (.mk o t k xs)).T.length 1 (tP (finL (.mk o t k xs)).T), .buf (finL (.mk o t k xs)).C.length 3 (cP (finL (.mk o t k xs)).C)] (op_spec 2 (licB (.mk o t k xs) b0) 38) rfl rfl rfl rfl rfl (by decide) (by decide) rfl ?_
    (conv => whnf)
    refine CallVC.inline f33_ok ?_
    (conv => whnf)
    refine CallVC.lend (ps := [encPg 2 (finL (.mk o t k xs)).T (finL (.mk o t k xs)).C (finL (.mk o t k xs)).S]) hcc (.int _ _) (.cons _ _ _ _ (.agg _ _ rfl fun j c p hc hp => ?_) .nil) ?_
    · match j, hc, hp with
      | 0, hc, hp => cases hc; cases hp; exact .p _
      | 1, hc, hp => cases hc; cases hp; exact Lend.all _ _ _ _ rfl (tP_len _).symm
      | 2, hc, hp => cases hc; cases hp; exact Lend.all _ _ _ _ rfl (cP_len _).symm
      | 3, hc, hp => cases hc; cases hp; exact .p _
    (conv => whnf)
    by_cases her : errP 2 (finL (.mk o t k xs)).T (finL (.mk o t k xs)).C (finL (.mk o t k xs)).S = 3
    · refine splitB_t (beq_iff_eq.2 her) ?_
      (conv => whnf)
      refine splitB_t rfl ?_
      (conv => whnf)
      exact fin _ _ hchk (.inl her) rfl
    · refine splitB_f (beq_eq_false_iff_ne.2 her) ?_
      (conv => whnf)
      refine splitB_f rfl ?_
      (conv => whnf)
      refine splitB_f rfl ?_
      (conv => whnf)
      rw [licsR, if_pos hchk, if_neg (fun h => by rcases h with h | ⟨h, _⟩; exact her h; cases h)]
      exact prog_lend 2 _ 4 5 _ _ _ rfl rfl

end Go.Proofs.Ythmlninecfjjgaa.AD

namespace Go.Proofs.Ythmlninecfjjgaa.AD
open Go.Proofs
set_option linter.unusedVariables false
set_option linter.unusedSimpArgs false
set_option maxRecDepth 100000

def finW (l : List Cl) : Ws := putW ⟨33, 0, 0⟩ (clsW l w0)
theorem fin_sim (l : List Cl) (hck : checkL l = true) : Sim (finC l) (finW l) := sim_put _ (sim_cls.2 l hck b0 w0 (.inl ⟨rfl, rfl, rfl, rfl, rfl⟩))

def Tidy (b : Bs) : Prop := ∀ t, t ∈ b.T → t.size ≤ 20000
theorem namedB_tidy (o : Int) (s : ByteArray) (hs : s.size ≤ 20000) (b : Bs) (h : Tidy b) : Tidy (namedB o s b) := by
  rw [namedB]
  split
  · exact h
  · intro t ht
    have ht : t ∈ b.T ++ [s] := ht
    simp only [List.mem_append, List.mem_singleton] at ht
    rcases ht with ht | rfl
    · exact h t ht
    · exact hs
theorem exB_tidy (e : Ex) : FewE e → ∀ b, Tidy b → Tidy (exB e b) := by
  induction e using Ex.ind with
  | h o t xs ih =>
    intro hf b h
    cases hf with
    | mk _ _ _ ht hx hxs =>
    match xs, ih, hxs with
    | [], _, _ => simp only [exB]; (repeat' split) <;> first | exact namedB_tidy _ _ ht b h | exact h
    | [a], ih, hxs => simp only [exB]; exact ih a (by simp) (hxs a (by simp)) b h
    | [a, c], ih, hxs =>
      have h1 := ih a (by simp) (hxs a (by simp)) b h
      simp only [exB]
      split
      · exact ih c (by simp) (hxs c (by simp)) (putB _ _) h1
      · exact ih c (by simp) (hxs c (by simp)) _ h1
    | _ :: _ :: _ :: _, _, _ => exact h
theorem clB_tidy : (∀ c, FewD c → ∀ b, Tidy b → Tidy (clB c b)) ∧ ∀ l : List Cl, (∀ c, c ∈ l → FewD c) → ∀ b, Tidy b → Tidy (clsB l b) := by
  have main : ∀ l : List Cl, (∀ c, c ∈ l → ∀ b, Tidy b → Tidy (clB c b)) → ∀ b, Tidy b → Tidy (clsB l b) := by
    intro l
    induction l with
    | nil => intro _ b h; exact h
    | cons c r ih => intro h b hb; exact ih (fun d hd => h d (by simp [hd])) _ (h c (by simp) b hb)
  have one : ∀ c, FewD c → ∀ b, Tidy b → Tidy (clB c b) := by
    intro c
    induction c using Cl.ind with
    | h k t v l ih =>
      intro hf b hb
      cases hf with
      | mk _ _ _ _ ht hv _ hl =>
      have h1 : Tidy (tstB t b) := exB_tidy t ht (putB ⟨29, 0, 0⟩ b) hb
      have h2 : ∀ b4, Tidy b4 → ∀ n m, Tidy (endB n m b4) := fun b4 h n m => h
      simp only [clB]
      refine h2 _ ?_ _ _
      (repeat' split) <;> first | exact h1 | exact exB_tidy v hv _ h1 | exact main l (fun c hc => ih c hc (hl c hc)) _ h1
  exact ⟨one, fun l h => main l fun c hc => one c (h c hc)⟩
theorem finC_tidy (l : List Cl) (h : ∀ c, c ∈ l → FewD c) : Tidy (finC l) := clB_tidy.2 l h b0 fun t ht => by cases ht

set_option maxHeartbeats 4000000 in
theorem refConds_pure (l : List Cl) (hl : (l.length : Int) ≤ 9223372036854775807) (hf : ∀ c, c ∈ l → FitsC c) (hfew : ∀ c, c ∈ l → FewD c) (hcnt : ccnts l ≤ 20000) : pureF Try.prog 18 [.p (.list 8 (encCs l))] (.p (condsR l)) := by
  refine pureF_fresh (ps := [.list 8 (encCs l)]) ?_
  have hcl := refClauses_spec l hl hf
  refine CallVC.inline f18_ok ?_
  (conv => whnf)
  refine CallVC.pureF hcl rfl ?_
  (conv => whnf)
  by_cases h0 : clsT l = 0
  · have hck : checkL l = true := by
      rw [clsT] at h0
      split at h0
      · assumption
      · cases h0
    have hS := fin_sim l hck
    have htd := finC_tidy l hfew
    obtain ⟨hBT, hBC⟩ := finC_bounds l hck hcnt
    have hcls := refclauses_spec 1 l hl hf hck w0 (by simp [w0]; omega)
    have fin : ∀ r os, limB 1 (finC l) → r = .p (.tup [nilPg, .int .i64 3]) → LendF os r (condsR l) := fun r os h2 h3 => by
      rw [condsR, if_pos h0, if_pos h2, h3]; exact .p _ (nil_tup _)
    rw [h0]
    refine splitB_f rfl ?_
    (conv => whnf)
    refine CallVC.ghost 1 1 1 rfl rfl ?_
    refine CallVC.ghost 1 2 3 rfl rfl ?_
    refine CallVC.methM' [1, 2, 3, 0] 4 [.cells [.p (.int .u8 0), .p .nils, .p .nils, .p (.int .i64 0)], .cells [.p (.int .u8 1), .view (.l 2) (clsW l w0).T.length 1 (clsW l w0).T.length, .view (.l 3) (clsW l w0).C.length 3 (clsW l w0).C.length, .p (.int .i64 (clsW l w0).S), .p (.int .i64 (clsW l w0).h), .p (.bool (clsW l w0).o)], .buf (clsW l w0).T.length 1 (tP (clsW l w0).T), .buf (clsW l w0).C.length 3 (cP (clsW l w0).C)] hcls rfl rfl rfl rfl rfl (by decide) (by decide) rfl ?_
    (conv => whnf)
    refine CallVC.methM' [1, 2, 3, 0] 4 [.cells [.p (.int .u8 0), .p .nils, .p .nils, .p (.int .i64 0)], .cells [.p (.int .u8 1), .view (.l 2) (finW l).T.length 1 (finW l).T.length, .view (.l 3) (finW l).C.length 3 (finW l).C.length, .p (.int .i64 (finW l).S), .p (.int .i64 (finW l).h), .p (.bool (finW l).o)], .buf (finW l).T.length 1 (tP (finW l).T), .buf (finW l).C.length 3 (cP (finW l).C)] (refput_spec 1 (clsW l w0) ⟨33, 0, 0⟩ (by decide) (by decide)) rfl rfl rfl rfl rfl (by decide) (by decide) rfl ?_
    (conv => whnf)
    refine CallVC.inline f29_ok ?_
    (conv => whnf)
    rcases hS with ⟨hov, eT, eC, eS, eh⟩ | ⟨hov, hbig⟩
    · have hrc := refCheck21_spec 1 (finW l).T (finW l).C (finW l).S (by rw [← eT]; omega) (by rw [← eC]; omega) (by rw [← eT]; intro t ht; have := htd t ht; omega)
      refine splitB_f hov ?_
      (conv => whnf)
      refine CallVC.lend (ps := [encPg 1 (finW l).T (finW l).C (finW l).S]) hrc (.int _ _) (.cons _ _ _ _ (.agg _ _ rfl fun j c p hc hp => ?_) .nil) ?_
      · match j, hc, hp with
        | 0, hc, hp => cases hc; cases hp; exact .p _
        | 1, hc, hp => cases hc; cases hp; exact Lend.all _ _ _ _ rfl (tP_len _).symm
        | 2, hc, hp => cases hc; cases hp; exact Lend.all _ _ _ _ rfl (cP_len _).symm
        | 3, hc, hp => cases hc; cases hp; exact .p _
      (conv => whnf)
      by_cases her : errP 1 (finW l).T (finW l).C (finW l).S = 3
      · refine splitB_t (beq_iff_eq.2 her) ?_
        (conv => whnf)
        refine splitB_t rfl ?_
        (conv => whnf)
        exact fin _ _ (.inl (by rw [eT, eC, eS]; exact her)) rfl
      · refine splitB_f (beq_eq_false_iff_ne.2 her) ?_
        (conv => whnf)
        refine splitB_t rfl ?_
        (conv => whnf)
        refine splitB_dec (fun hS => ?_) (fun hS => ?_)
        · (conv => whnf)
          exact fin _ _ (.inr ⟨rfl, by rw [eS]; omega⟩) rfl
        · (conv => whnf)
          rw [condsR, if_pos h0, if_neg (fun h => by rw [limB, eT, eC, eS] at h; rcases h with h | ⟨_, h⟩; exact her h; omega), eT, eC, eS]
          exact prog_lend 1 _ 2 3 _ _ _ rfl rfl
    · refine splitB_t hov ?_
      repeat' ((conv => whnf); refine splitB_t rfl ?_)
      (conv => whnf)
      exact fin _ _ (.inl (by rw [errP, if_pos (by rcases hbig with h | h; exact .inl h; exact .inr h)])) rfl
  · refine splitB_t (bne_iff_ne.2 h0) ?_
    (conv => whnf)
    rw [condsR, if_neg h0]
    exact .p _ (nil_tup _)

/-! ### the laws -/
theorem nil_same : pureF Try.prog 13 [.p nilPg, .p nilPg] (.p (.bool true)) := by
  have h := SameProgram_spec 0 [] [] 0 (by simp) (by simp)
  have hle : PV.le nilPg (encPg 0 [] [] 0) := .agg (.cons _ _ _ _ (.refl _) (.cons _ _ _ _ (.nils 1) (.cons _ _ _ _ (.nils 3) (.cons _ _ _ _ (.refl _) .nil))))
  exact h.args (.p _ _ _ _ hle (.p _ _ _ _ hle .nil))

theorem works_spec : pureF Try.prog 9 [] (.p (.bool true)) := by
  refine pureF_of f9_ok fun H => ?_
  have hfit : FitsL (.mk 1 ⟨#[97]⟩ 0 []) := .mk _ _ _ _ (by decide) (by decide) (by decide) (by decide) (by decide) fun a ha => by cases ha
  have hle : PV.le (.agg [.int .u8 1, .str ⟨#[97]⟩, .int .i64 0, .nils]) (encL (.mk 1 ⟨#[97]⟩ 0 [])) := .agg (.cons _ _ _ _ (.refl _) (.cons _ _ _ _ (.refl _) (.cons _ _ _ _ (.refl _) (.cons _ _ _ _ (.nils 4) .nil))))
  have hlic := (Lics_pure (.mk 1 ⟨#[97]⟩ 0 []) hfit (by decide)).args (.p _ _ _ _ hle .nil)
  have hfin : finL (.mk 1 ⟨#[97]⟩ 0 []) = ⟨[⟨#[97]⟩], [⟨34, 0, 0⟩, ⟨38, 0, 0⟩], 1, 0⟩ := rfl
  have hR : licsR (.mk 1 ⟨#[97]⟩ 0 []) = .tup [encPg 2 [⟨#[97]⟩] [⟨34, 0, 0⟩, ⟨38, 0, 0⟩] 1, .int .i64 0] := by
    rw [licsR, if_pos (by decide), hfin, if_neg (by decide)]
  rw [hR] at hlic
  have hsame := SameProgram_spec 2 [⟨#[97]⟩] [⟨34, 0, 0⟩, ⟨38, 0, 0⟩] 1 (by simp) (by simp)
  repeat' ((conv => whnf); first | refine CallVC.pureF hlic rfl ?_ | refine CallVC.pureF hsame rfl ?_ | refine splitB_t rfl ?_ | refine splitB_f rfl ?_ | exact ⟨rfl, rfl⟩)

theorem condsRv_flat (l : List Cl) : FlatA (condsRv l) := .tup _ fun a ha => by
  simp only [List.mem_cons, List.mem_nil_iff, or_false] at ha
  rcases ha with rfl | rfl
  · refine .agg _ fun a ha => ?_
    simp only [List.mem_cons, List.mem_nil_iff, or_false] at ha
    rcases ha with rfl | rfl | rfl | rfl
    · exact .p _ (.int _ _)
    · exact .view _ _ _ _
    · exact .view _ _ _ _
    · exact .p _ (.int _ _)
  · exact .p _ (.int _ _)
theorem condsOs_flat (l : List Cl) : ∀ o, o ∈ condsOs l → FlatO o := fun o ho => by
  have cell : ∀ cs : List AV, (∀ a, a ∈ cs → FlatA a) → FlatO (.cells cs) := fun cs h => h
  simp only [condsOs, List.mem_cons, List.mem_nil_iff, or_false] at ho
  rcases ho with rfl | rfl | rfl | rfl | rfl | rfl
  · refine cell _ fun a ha => ?_
    simp only [List.mem_cons, List.mem_nil_iff, or_false] at ha
    rcases ha with rfl | rfl | rfl | rfl <;> first | exact .p _ (.int _ _) | exact .view _ _ _ _
  · exact mP_flat _ _
  · refine cell _ fun a ha => ?_
    simp only [List.mem_cons, List.mem_nil_iff, or_false] at ha
    rcases ha with rfl | rfl | rfl | rfl | rfl | rfl <;> first | exact .p _ (.int _ _) | exact .view _ _ _ _ | exact .mapr _
  · exact tP_flat _
  · exact cP_flat _
  · refine cell _ fun a ha => ?_
    simp only [List.mem_cons, List.mem_nil_iff, or_false] at ha
    rcases ha with rfl | rfl | rfl | rfl <;> first | exact .p _ (.int _ _) | exact .view _ _ _ _

set_option maxHeartbeats 4000000 in
theorem CompileConds_spec (l : List Cl) (hl : (l.length : Int) ≤ 9223372036854775807) (hf : ∀ c, c ∈ l → FitsC c) : pureF Try.prog 4 [.p (.list 8 (encCs l))] (.p (.bool true)) := by
  refine pureF_nil_of (ps := [.list 8 (encCs l)]) f4_ok (.bool _) ?_
  have hlw := Weights_spec l hl hf 20000 (by omega) (by omega)
  have hw := works_spec
  have hns := nil_same
  (conv => whnf)
  refine CallVC.pureF hlw rfl ?_
  (conv => whnf)
  refine splitB_dec (fun h => ?_) (fun h => ?_)
  · (conv => whnf)
    refine CallVC.pureF hw rfl ?_
    exact ⟨rfl, rfl⟩
  · obtain ⟨few1, few2, few3⟩ := fewDs_of l 20000 (by omega) (by omega)
    have hlent := LentClauses_spec l few1 fun c hc => (few2 c hc).fewC
    have hkept := KeptClauses_spec l few1 fun c hc => (few2 c hc).fewC
    have href := refConds_pure l hl hf few2 few3
    have hcon := (Conds_pure l hl hf few3).args (.p _ _ _ _ (encTCs_le l) .nil)
    (conv => whnf)
    refine CallVC.pureF hlent rfl ?_
    (conv => whnf)
    refine CallVC.pureF href rfl ?_
    by_cases hok : clsT l = 0 ∧ ¬ limB 1 (finC l)
    · have hR : condsR l = .tup [encPg 1 (finC l).T (finC l).C (finC l).S, .int .i64 0] := by rw [condsR, if_pos hok.1, if_neg hok.2]
      have hown := Conds_own l hl hf few3 hok.1 hok.2
      have hck : checkL l = true := by
        have h0 := hok.1
        rw [clsT] at h0
        split at h0
        · assumption
        · cases h0
      obtain ⟨hBT, hBC⟩ := finC_bounds l hck few3
      have hsame := SameProgram_spec 1 (finC l).T (finC l).C (finC l).S (by omega) (by omega)
      have hT := tP_len (finC l).T
      have hC := cP_len (finC l).C
      rw [hR] at hcon ⊢
      (conv => whnf)
      refine CallVC.args (CallVC.fresh (ps := [.list 8 (encCs l)]) hown (condsRv_flat l) (condsOs_flat l) 1 rfl ?_) (.p _ _ _ _ (encTCs_le l) .nil)
      (conv => whnf)
      refine CallVC.lend (ps := [encPg 1 (finC l).T (finC l).C (finC l).S, encPg 1 (finC l).T (finC l).C (finC l).S]) hsame (.bool _) (.cons _ _ _ _ (.agg _ _ rfl fun j c p hc hp => ?_) (.cons _ _ _ _ (.p _) .nil)) ?_
      · match j, hc, hp with
        | 0, hc, hp => cases hc; cases hp; exact .p _
        | 1, hc, hp => cases hc; cases hp; exact Lend.all _ _ _ _ rfl (tP_len _).symm
        | 2, hc, hp => cases hc; cases hp; exact Lend.all _ _ _ _ rfl (cP_len _).symm
        | 3, hc, hp => cases hc; cases hp; exact .p _
      repeat' ((conv => whnf); first | refine splitB_t rfl ?_ | refine splitB_f rfl ?_ | refine CallVC.inline f14_ok ?_)
      (conv => whnf)
      intro R hR
      have key : ∀ (d i : Nat) (zs : List ByteArray), zs.length = (finC l).T.length → i + d = (finC l).T.length → R [(1, .ref (.l 8) 0), (2, .p (.int .i64 i))] [] [.cells [.p (.int .u8 1), .p (.list 1 (tP (finC l).T)), .p (.list 3 (cP (finC l).C)), .p (.int .i64 (finC l).S)], .cells [.p (.int .u8 1), .view (.l 4) (finC l).T.length 1 (finC l).T.length, .view (.l 5) (finC l).C.length 3 (finC l).C.length, .p (.int .i64 (finC l).S)], .map (mP 0 (finC l).T), .cells [.p (.int .u8 1), .view (.l 4) (finC l).T.length 1 (finC l).T.length, .view (.l 5) (finC l).C.length 3 (finC l).C.length, .p (.int .i64 (finC l).S), .mapr (.l 2), .p (.int .i64 (finC l).h)], .buf (finC l).T.length 1 (tP zs), .buf (finC l).C.length 3 (cP (finC l).C), .cells [.p (.int .u8 1), .view (.l 4) (finC l).T.length 1 (finC l).T.length, .view (.l 5) (finC l).C.length 3 (finC l).C.length, .p (.int .i64 (finC l).S)], .cells [.p (.int .u8 1), .view (.l 4) (finC l).T.length 1 (finC l).T.length, .view (.l 5) (finC l).C.length 3 (finC l).C.length, .p (.int .i64 (finC l).S)], .cells [.p (.int .u8 1), .view (.l 4) (finC l).T.length 1 (finC l).T.length, .view (.l 5) (finC l).C.length 3 (finC l).C.length, .p (.int .i64 (finC l).S)]] := by
        intro d
        induction d with
        | succ d ih =>
          intro i zs hz hd
          refine hR _ _ _ ?_
          (conv => whnf)
          refine ⟨rfl, ?_⟩
          (conv => whnf)
          refine splitB_t (decide_eq_true (by omega)) ?_
          (conv => whnf)
          refine ⟨⟨rfl, by omega, by omega⟩, ?_⟩
          (conv => whnf)
          refine ⟨rfl, ?_⟩
          (conv => whnf)
          refine ⟨⟨rfl, rfl⟩, .str zs[i], tP_get (List.getElem?_eq_getElem (by omega)), ?_⟩
          (conv => whnf)
          refine ⟨rfl, rfl, ?_⟩
          (conv => whnf)
          rw [IntWalk.i64_in (i + 1) (by omega)]
          have q := ih (i + 1) (zs.set i ⟨#[119, 114, 105, 116, 116, 101, 110, 32, 111, 118, 101, 114]⟩) (by rw [List.length_set]; exact hz) (by omega)
          have es : tP (zs.set i ⟨#[119, 114, 105, 116, 116, 101, 110, 32, 111, 118, 101, 114]⟩) = (tP zs).set (Int.toNat i) (.str ⟨#[119, 114, 105, 116, 116, 101, 110, 32, 111, 118, 101, 114]⟩) := by rw [tP, List.map_set]; rfl
          rw [es] at q
          exact q
        | zero =>
          intro i zs hz hd
          refine hR _ _ _ ?_
          (conv => whnf)
          refine ⟨rfl, ?_⟩
          (conv => whnf)
          refine splitB_f (decide_eq_false (by omega)) ?_
          (conv => whnf)
          intro R2 hR2
          have key2 : ∀ (d i : Nat) (ys : List Ins), ys.length = (finC l).C.length → i + d = (finC l).C.length → R2 [(1, .ref (.l 8) 0), (3, .p (.int .i64 i))] [] [.cells [.p (.int .u8 1), .p (.list 1 (tP (finC l).T)), .p (.list 3 (cP (finC l).C)), .p (.int .i64 (finC l).S)], .cells [.p (.int .u8 1), .view (.l 4) (finC l).T.length 1 (finC l).T.length, .view (.l 5) (finC l).C.length 3 (finC l).C.length, .p (.int .i64 (finC l).S)], .map (mP 0 (finC l).T), .cells [.p (.int .u8 1), .view (.l 4) (finC l).T.length 1 (finC l).T.length, .view (.l 5) (finC l).C.length 3 (finC l).C.length, .p (.int .i64 (finC l).S), .mapr (.l 2), .p (.int .i64 (finC l).h)], .buf (finC l).T.length 1 (tP zs), .buf (finC l).C.length 3 (cP ys), .cells [.p (.int .u8 1), .view (.l 4) (finC l).T.length 1 (finC l).T.length, .view (.l 5) (finC l).C.length 3 (finC l).C.length, .p (.int .i64 (finC l).S)], .cells [.p (.int .u8 1), .view (.l 4) (finC l).T.length 1 (finC l).T.length, .view (.l 5) (finC l).C.length 3 (finC l).C.length, .p (.int .i64 (finC l).S)], .cells [.p (.int .u8 1), .view (.l 4) (finC l).T.length 1 (finC l).T.length, .view (.l 5) (finC l).C.length 3 (finC l).C.length, .p (.int .i64 (finC l).S)]] := by
            intro d
            induction d with
            | succ d ih =>
              intro i ys hz2 hd
              refine hR2 _ _ _ ?_
              (conv => whnf)
              refine ⟨rfl, ?_⟩
              (conv => whnf)
              refine splitB_t (decide_eq_true (by omega)) ?_
              (conv => whnf)
              refine ⟨⟨rfl, by omega, by omega⟩, ?_⟩
              (conv => whnf)
              refine ⟨rfl, ?_⟩
              (conv => whnf)
              refine ⟨⟨rfl, rfl⟩, insP ys[i], cP_get (List.getElem?_eq_getElem (by omega)), ?_⟩
              (conv => whnf)
              rw [IntWalk.i64_in (i + 1) (by omega)]
              have q := ih (i + 1) (ys.set i ⟨99, 0, 0⟩) (by rw [List.length_set]; exact hz2) (by omega)
              have es : cP (ys.set i ⟨99, 0, 0⟩) = (cP ys).set (Int.toNat i) (insP ⟨99, 0, 0⟩) := by rw [cP, List.map_set]; rfl
              rw [es] at q
              exact q
            | zero =>
              intro i ys hz2 hd
              refine hR2 _ _ _ ?_
              (conv => whnf)
              refine ⟨rfl, ?_⟩
              (conv => whnf)
              refine splitB_f (decide_eq_false (by omega)) ?_
              repeat' ((conv => whnf); first | refine CallVC.pureF hcon rfl ?_ | refine CallVC.pureF hsame rfl ?_ | refine CallVC.pureF hkept rfl ?_ | refine CallVC.pureF hw rfl ?_ | refine splitB_t rfl ?_ | refine splitB_f rfl ?_ | exact ⟨rfl, rfl⟩)
          exact key2 (finC l).C.length 0 (finC l).C rfl (by omega)
      exact key (finC l).T.length 0 (finC l).T rfl (by omega)
    · have hR : ∃ n, condsR l = .tup [nilPg, .int .i64 n] := by
        rw [condsR]
        by_cases h0 : clsT l = 0
        · by_cases h1 : limB 1 (finC l)
          · exact ⟨3, by rw [if_pos h0, if_pos h1]⟩
          · exact absurd ⟨h0, h1⟩ hok
        · exact ⟨_, by rw [if_neg h0]⟩
      obtain ⟨n, hR⟩ := hR
      rw [hR] at hcon ⊢
      repeat' ((conv => whnf); first | refine CallVC.pureF hcon rfl ?_ | refine CallVC.pureF hns rfl ?_ | refine CallVC.pureF hkept rfl ?_ | refine CallVC.pureF hw rfl ?_ | refine splitB_t rfl ?_ | refine splitB_f rfl ?_ | refine splitB_f (bne_self_eq_false _) ?_ | refine CallVC.inline f14_ok ?_ | (intro R hR; refine hR _ _ _ ?_) | exact ⟨rfl, rfl⟩)

end Go.Proofs.Ythmlninecfjjgaa.AD

namespace Go.Proofs.Ythmlninecfjjgaa.AD
open Go.Proofs
set_option linter.unusedVariables false
set_option linter.unusedSimpArgs false
set_option maxRecDepth 100000

def tx (o : Int) : Prop := o = 1 ∨ o = 2 ∨ o = 3 ∨ o = 4
instance (o : Int) : Decidable (tx o) := inferInstanceAs (Decidable (_ ∨ _))
/-- How many texts are named, where each is named in its turn. -/
def walkT : List Ins → Nat → Option Nat
  | [], n => some n
  | x :: r, n => if tx x.op then (if x.a < 0 ∨ (n : Int) < x.a then none else walkT r (if x.a = n then n + 1 else n)) else walkT r n
theorem walkT_append (ys : List Ins) : ∀ (xs : List Ins) (n : Nat), walkT (xs ++ ys) n = (walkT xs n).bind (walkT ys)
  | [], n => rfl
  | x :: r, n => by
    simp only [List.cons_append, walkT]
    split
    · split
      · rfl
      · exact walkT_append ys r _
    · exact walkT_append ys r _
theorem walkT_le : ∀ (xs : List Ins) (n m : Nat), walkT xs n = some m → n ≤ m
  | [], n, m, h => by simp [walkT] at h; omega
  | x :: r, n, m, h => by
    simp only [walkT] at h
    split at h
    · split at h
      · cases h
      · have := walkT_le r _ m h
        split at this <;> omega
    · exact walkT_le r n m h
theorem walkT_set (v : Int) : ∀ (C : List Ins) (i n : Nat), (∀ x, C[i]? = some x → ¬ tx x.op) → walkT (setA i v C) n = walkT C n
  | [], i, n, _ => by simp [setA]
  | x :: r, 0, n, h => by
    have h1 := h x rfl
    simp only [setA, List.modify_zero_cons, walkT, if_neg h1]
  | x :: r, i + 1, n, h => by
    have ih := fun n => walkT_set v r i n fun y hy => h y (by simpa using hy)
    simp only [setA, List.modify_succ_cons, walkT] at ih ⊢
    simp only [ih]

def First (b : Bs) : Prop := 32768 < b.C.length ∨ (walkT b.C 0 = some b.T.length ∧ b.T.Nodup)
structure Ops (b b' : Bs) : Prop where
  len : b.C.length ≤ b'.C.length
  op : ∀ (i : Nat) (x : Ins), b.C[i]? = some x → ∃ y, b'.C[i]? = some y ∧ y.op = x.op
theorem Ops.refl (b : Bs) : Ops b b := ⟨Nat.le_refl _, fun i x h => ⟨x, h, rfl⟩⟩
theorem Ops.trans {a b c : Bs} (h : Ops a b) (k : Ops b c) : Ops a c := ⟨Nat.le_trans h.len k.len, fun i x hx => by
  obtain ⟨y, h1, h2⟩ := h.op i x hx
  obtain ⟨z, k1, k2⟩ := k.op i y h1
  exact ⟨z, k1, k2.trans h2⟩⟩
theorem ops_put (x : Ins) (b : Bs) : Ops b (putB x b) := ⟨(putB_len x b).1, fun i y hy => ⟨y, by
  simp only [putB]
  split
  · rw [List.getElem?_append_left (get_lt hy)]; exact hy
  · exact hy, rfl⟩⟩
theorem ops_named (o : Int) (s : ByteArray) (b : Bs) : Ops b (namedB o s b) := by
  rw [namedB]
  split
  · exact ops_put _ _
  · exact ⟨(ops_put ⟨o, b.T.length, 0⟩ { b with T := b.T ++ [s] }).len, (ops_put ⟨o, b.T.length, 0⟩ { b with T := b.T ++ [s] }).op⟩
theorem ops_land (n : Nat) (b : Bs) : Ops b (landB n b) := ⟨by rw [landB_len]; exact Nat.le_refl _, fun i x hx => by
  simp only [landB, setA, List.getElem?_modify, hx, Option.map_some]
  split
  · exact ⟨_, rfl, rfl⟩
  · exact ⟨_, rfl, rfl⟩⟩
theorem ops_ex (e : Ex) : ∀ b, Ops b (exB e b) := by
  induction e using Ex.ind with
  | h o t xs ih =>
    intro b
    match xs, ih with
    | [], _ => simp only [exB]; (repeat' split) <;> first | exact ops_named _ _ _ | exact ops_put _ _ | exact .refl _
    | [a], ih => simp only [exB]; exact (ih a (by simp) b).trans (ops_put _ _)
    | [a, c], ih =>
      have h1 := ih a (by simp) b
      simp only [exB]
      split
      · exact ((h1.trans (ops_put _ _)).trans (ih c (by simp) _)).trans (ops_land _ _)
      · exact (h1.trans (ih c (by simp) _)).trans (ops_put _ _)
    | _ :: _ :: _ :: _, _ => exact .refl _
theorem ops_end (n m : Nat) (b : Bs) : Ops b (endB n m b) := ((ops_land m b).trans (ops_put ⟨30, 0, 0⟩ _)).trans (ops_land n _)
theorem ops_tst (t : Ex) (b : Bs) : Ops b (tstB t b) := ((ops_put _ _).trans (ops_ex t _)).trans (ops_put _ _)
theorem ops_cl : (∀ c b, Ops b (clB c b)) ∧ ∀ l b, Ops b (clsB l b) := by
  have main : ∀ l : List Cl, (∀ c, c ∈ l → ∀ b, Ops b (clB c b)) → ∀ b, Ops b (clsB l b) := by
    intro l
    induction l with
    | nil => intro _ b; exact .refl _
    | cons c r ih => intro h b; exact (h c (by simp) b).trans (ih (fun d hd => h d (by simp [hd])) _)
  have one : ∀ c b, Ops b (clB c b) := by
    intro c
    induction c using Cl.ind with
    | h k t v l ih =>
      intro b
      have h1 := ops_tst t b
      simp only [clB]
      refine Ops.trans ?_ (ops_end _ _ _)
      (repeat' split) <;> first | exact h1.trans (ops_put _ _) | exact (h1.trans (ops_ex _ _)).trans (ops_put _ _) | exact h1.trans (main l ih _) | exact h1
  exact ⟨one, fun l => main l fun c _ => one c⟩

theorem first_put {x : Ins} {b : Bs} (hx : ¬ tx x.op) (h : First b) : First (putB x b) := by
  rcases h with h | ⟨h1, h2⟩
  · exact .inl (Nat.lt_of_lt_of_le h (putB_len x b).1)
  · by_cases hc : b.C.length ≤ 32768
    · refine .inr ⟨?_, h2⟩
      simp only [putB, if_pos hc]
      rw [walkT_append, h1]
      simp [walkT, hx]
    · exact .inl (Nat.lt_of_lt_of_le (by omega) (putB_len x b).1)
theorem tix_some {s : ByteArray} : ∀ {T : List ByteArray} {i : Nat}, tix s T = some i → T[i]? = some s
  | t :: r, i, h => by
    simp only [tix] at h
    split at h
    · rename_i e; cases h; rw [e]; rfl
    · cases hr : tix s r with
      | none => rw [hr] at h; cases h
      | some k => rw [hr] at h; simp at h; subst h; simpa using tix_some hr
theorem tix_none {s : ByteArray} : ∀ {T : List ByteArray}, tix s T = none → s ∉ T
  | [], _ => by simp
  | t :: r, h => by
    simp only [tix] at h
    split at h
    · cases h
    · rename_i e
      cases hr : tix s r with
      | none => simp [e, tix_none hr]
      | some k => rw [hr] at h; cases h
theorem first_named {o : Int} {s : ByteArray} {b : Bs} (ho : tx o) (h : First b) : First (namedB o s b) := by
  rcases h with h | ⟨h1, h2⟩
  · exact .inl (Nat.lt_of_lt_of_le h (ops_named o s b).len)
  · by_cases hc : b.C.length ≤ 32768
    · rw [namedB]
      cases hi : tix s b.T with
      | some i =>
        have hlt := get_lt (tix_some hi)
        refine .inr ⟨?_, h2⟩
        simp only [putB, if_pos hc]
        rw [walkT_append, h1]
        simp only [Option.bind_some, walkT, if_pos ho]
        rw [if_neg (by omega), if_neg (by omega)]
      | none =>
        have hn := tix_none hi
        refine .inr ⟨?_, ?_⟩
        · simp only [putB, if_pos hc]
          rw [walkT_append, h1]
          simp only [Option.bind_some, walkT, if_pos ho]
          rw [if_neg (by omega), if_pos trivial]
          simp
        · show (b.T ++ [s]).Nodup
          rw [List.nodup_append]
          refine ⟨h2, by simp, ?_⟩
          intro a ha c hc2 e
          simp at hc2
          subst hc2; subst e
          exact hn ha
    · exact .inl (Nat.lt_of_lt_of_le (by omega) (ops_named o s b).len)
theorem first_land {n : Nat} {b : Bs} (h : First b) (hx : b.C.length ≤ 32768 → ∃ x, b.C[n]? = some x ∧ ¬ tx x.op) : First (landB n b) := by
  rcases h with h | ⟨h1, h2⟩
  · exact .inl (by rw [landB_len]; exact h)
  · by_cases hc : b.C.length ≤ 32768
    · obtain ⟨x, g1, g2⟩ := hx hc
      have hlt := get_lt g1
      refine .inr ⟨?_, h2⟩
      simp only [landB]
      rw [Nat.min_eq_left (by omega), walkT_set _ _ _ _ fun y hy => by rw [g1] at hy; cases hy; exact g2]
      exact h1
    · exact .inl (by rw [landB_len]; omega)
theorem leap_at {x : Ins} {b b' : Bs} (h : Ops (putB x b) b') (hx : ¬ tx x.op) : b'.C.length ≤ 32768 → ∃ y, b'.C[b.C.length]? = some y ∧ ¬ tx y.op := by
  intro hc
  have h1 := (putB_len x b).1
  have h2 := h.len
  have hg : (putB x b).C[b.C.length]? = some x := by
    simp only [putB, if_pos (show b.C.length ≤ 32768 by omega)]
    simp
  obtain ⟨y, g1, g2⟩ := h.op _ _ hg
  exact ⟨y, g1, by rw [g2]; exact hx⟩
theorem insOf_not {o : Int} (h : arityI o = 1 ∨ arityI o = 2) : ¬ tx (insOf o) := by
  rcases h with h | h
  · rcases arity1 h with rfl | rfl | rfl | rfl | rfl <;> decide
  · rcases arity2 h with rfl | rfl | rfl | rfl | rfl | rfl | rfl | rfl | rfl | rfl | rfl | rfl | rfl | rfl | rfl | rfl <;> decide
theorem first_ex (e : Ex) : Shaped e → ∀ b, First b → First (exB e b) := by
  induction e using Ex.ind with
  | h o t xs ih =>
    intro hs b h
    rcases hs.args with ⟨h0, rfl⟩ | ⟨h0, a, rfl, ha⟩ | ⟨h0, a, c, rfl, ha, hc⟩
    · simp only [exB]
      rcases arity0 h0 with rfl | rfl | rfl | rfl | rfl | rfl <;> simp only [Int.reduceEq, if_true, if_false] <;> first | exact first_named (by decide) h | exact first_put (by show ¬ tx _; decide) h
    · simp only [exB]
      exact first_put (insOf_not (.inl h0)) (ih a (by simp) ha b h)
    · have h1 := ih a (by simp) ha b h
      have hn := insOf_not (.inr h0)
      simp only [exB]
      split
      · exact first_land (ih c (by simp) hc _ (first_put hn h1)) (leap_at (ops_ex c _) hn)
      · exact first_put hn (ih c (by simp) hc _ h1)
theorem first_cls : (∀ c, checkC c = true → ∀ b, First b → First (clB c b)) ∧ ∀ l, checkL l = true → ∀ b, First b → First (clsB l b) := by
  have main : ∀ l : List Cl, (∀ c, c ∈ l → checkC c = true → ∀ b, First b → First (clB c b)) → checkL l = true → ∀ b, First b → First (clsB l b) := by
    intro l
    induction l with
    | nil => intro _ _ b h; exact h
    | cons c r ih =>
      intro h hc b hb
      simp only [checkL, Bool.and_eq_true] at hc
      exact ih (fun d hd => h d (by simp [hd])) hc.2 _ (h c (by simp) hc.1 b hb)
  have one : ∀ c, checkC c = true → ∀ b, First b → First (clB c b) := by
    intro c
    induction c using Cl.ind with
    | h k t v l ih =>
      intro hc b hb
      obtain ⟨s1, s2, s3⟩ := checkC_parts hc
      have g1 : First (putB ⟨29, 0, 0⟩ b) := first_put (by show ¬ tx 29; decide) hb
      have g2 := first_ex t s1 _ g1
      have g3 : First (tstB t b) := first_put (by show ¬ tx 28; decide) g2
      have fin : ∀ b4, Ops (tstB t b) b4 → First b4 → First (endB b.C.length (exB t (putB ⟨29, 0, 0⟩ b)).C.length b4) := by
        intro b4 ho h4
        refine first_land (first_put (by show ¬ tx 30; decide) (first_land h4 (leap_at ho (by show ¬ tx 28; decide)))) (leap_at (x := ⟨29, 0, 0⟩) ?_ (by show ¬ tx 29; decide))
        exact ((((ops_ex t _).trans (ops_put _ _)).trans ho).trans (ops_land _ _)).trans (ops_put _ _)
      simp only [clB]
      by_cases k1 : k = 1
      · rw [if_pos k1]; exact fin _ (ops_put _ _) (first_put (by show ¬ tx 32; decide) g3)
      · rw [if_neg k1]
        by_cases k2 : k = 2
        · rw [if_pos k2]; exact fin _ ((ops_ex v _).trans (ops_put _ _)) (first_put (by show ¬ tx 31; decide) (first_ex v (s2 k2) _ g3))
        · rw [if_neg k2]
          by_cases k3 : k = 3
          · rw [if_pos k3]; exact fin _ (ops_cl.2 l _) (main l ih s3 _ g3)
          · rw [if_neg k3]; exact fin _ (.refl _) g3
  exact ⟨one, fun l => main l fun c _ => one c⟩
theorem first_fin (l : List Cl) (hck : checkL l = true) (h : ¬ limB 1 (finC l)) : walkT (finC l).C 0 = some (finC l).T.length ∧ (finC l).T.Nodup := by
  have h1 : First (finC l) := first_put (by show ¬ tx 33; decide) (first_cls.2 l hck b0 (.inr ⟨rfl, by simp [b0]⟩))
  rcases h1 with h1 | h1
  · exact absurd (.inl (by rw [errP, if_pos (.inl h1)])) h
  · exact h1

end Go.Proofs.Ythmlninecfjjgaa.AD

namespace Go.Proofs.Ythmlninecfjjgaa.AD
open Go.Proofs
set_option linter.unusedVariables false
set_option linter.unusedSimpArgs false
set_option maxRecDepth 100000

theorem ba_inj {a b : ByteArray} (h : a.toList = b.toList) : a = b := by
  have := ba_ext.1 h
  cases a; cases b
  simp at this
  exact congrArg _ this

set_option maxHeartbeats 4000000 in
theorem CompileTexts_spec (l : List Cl) (hl : (l.length : Int) ≤ 9223372036854775807) (hf : ∀ c, c ∈ l → FitsC c) : pureF Try.prog 6 [.p (.list 8 (encCs l))] (.p (.bool true)) := by
  refine pureF_of f6_ok fun H => ?_
  have hlw := Weights_spec l hl hf 20000 (by omega) (by omega)
  have hw := works_spec
  (conv => whnf)
  refine CallVC.pureF hlw rfl ?_
  (conv => whnf)
  refine splitB_dec (fun h => ?_) (fun h => ?_)
  · (conv => whnf)
    refine CallVC.pureF hw rfl ?_
    exact ⟨rfl, rfl⟩
  · obtain ⟨few1, few2, few3⟩ := fewDs_of l 20000 (by omega) (by omega)
    have hcon := Conds_pure l hl hf few3
    by_cases hok : clsT l = 0 ∧ ¬ limB 1 (finC l)
    · have hR : condsR l = .tup [encPg 1 (finC l).T (finC l).C (finC l).S, .int .i64 0] := by rw [condsR, if_pos hok.1, if_neg hok.2]
      have hck : checkL l = true := by
        have h0 := hok.1
        rw [clsT] at h0
        split at h0
        · assumption
        · cases h0
      obtain ⟨hBT, hBC⟩ := finC_bounds l hck few3
      obtain ⟨hwalk, hnd⟩ := first_fin l hck hok.2
      rw [hR] at hcon
      generalize (finC l).T = T at hcon hBT hwalk hnd
      generalize (finC l).C = C at hcon hBC hwalk
      generalize (finC l).S = S at hcon
      have hT := tP_len T
      have hC := cP_len C
      (conv => whnf)
      refine CallVC.pureF hcon rfl ?_
      (conv => whnf)
      refine splitB_f rfl ?_
      (conv => whnf)
      intro R hR
      have key : ∀ (rest : List Ins) (i n : Nat), C.drop i = rest → walkT rest n = some T.length → R [(3, .ref (.l 0) 0), (5, .p (.int .i64 n)), (6, .p (.int .i64 i))] H [.cells [.p (.int .u8 1), .p (.list 1 (tP T)), .p (.list 3 (cP C)), .p (.int .i64 S)]] := by
        intro rest
        induction rest with
        | nil =>
          intro i n hd hwk
          have hl := drop_nil hd
          have hnT : n = T.length := by simpa [walkT] using hwk
          subst hnT
          refine hR _ _ _ ?_
          (conv => whnf)
          refine splitB_f (decide_eq_false (by omega)) ?_
          (conv => whnf)
          intro R2 hR2
          have key2 : ∀ (d i : Nat), i + d = T.length → R2 [(3, .ref (.l 0) 0), (5, .p (.int .i64 T.length)), (8, .p (.int .i64 i))] H [.cells [.p (.int .u8 1), .p (.list 1 (tP T)), .p (.list 3 (cP C)), .p (.int .i64 S)]] := by
            intro d
            induction d with
            | zero =>
              intro i hi
              refine hR2 _ _ _ ?_
              (conv => whnf)
              refine splitB_f (decide_eq_false (by omega)) ?_
              repeat' ((conv => whnf); first | refine CallVC.pureF hw rfl ?_ | refine splitB_f rfl ?_ | refine splitB_t rfl ?_ | refine splitB_t (beq_iff_eq.2 (by rw [hT])) ?_ | exact ⟨rfl, rfl⟩)
            | succ d ihd =>
              intro i hi
              refine hR2 _ _ _ ?_
              (conv => whnf)
              refine splitB_t (decide_eq_true (by omega)) ?_
              (conv => whnf)
              refine splitB_dec (fun h300 => ?_) (fun h300 => ?_)
              · (conv => whnf)
                intro R3 hR3
                have key3 : ∀ (d k : Nat), k + d = i → R3 [(3, .ref (.l 0) 0), (5, .p (.int .i64 T.length)), (8, .p (.int .i64 i)), (9, .p (.int .i64 k))] H [.cells [.p (.int .u8 1), .p (.list 1 (tP T)), .p (.list 3 (cP C)), .p (.int .i64 S)]] := by
                  intro d
                  induction d with
                  | zero =>
                    intro k hk
                    refine hR3 _ _ _ ?_
                    (conv => whnf)
                    refine splitB_f (decide_eq_false (by omega)) ?_
                    (conv => whnf)
                    rw [IntWalk.i64_in _ (by omega)]
                    exact ihd (i + 1) (by omega)
                  | succ d ih3 =>
                    intro k hk
                    have g1 : T[i]? = some (T[i]'(by omega)) := List.getElem?_eq_getElem (by omega)
                    have g2 : T[k]? = some (T[k]'(by omega)) := List.getElem?_eq_getElem (by omega)
                    have hne : T[i]'(by omega) ≠ T[k]'(by omega) := fun e => by
                      exact (List.pairwise_iff_getElem.1 hnd) k i (by omega) (by omega) (by omega) e.symm
                    refine hR3 _ _ _ ?_
                    (conv => whnf)
                    refine splitB_t (decide_eq_true (by omega)) ?_
                    (conv => whnf)
                    refine ⟨rfl, _, ⟨by omega, tP_get g1⟩, ?_⟩
                    (conv => whnf)
                    refine ⟨rfl, _, ⟨by omega, tP_get g2⟩, ?_⟩
                    (conv => whnf)
                    refine splitB_f (beq_eq_false_iff_ne.2 fun e => hne (ba_inj e)) ?_
                    (conv => whnf)
                    rw [IntWalk.i64_in _ (by omega)]
                    exact ih3 (k + 1) (by omega)
                exact key3 i 0 (by omega)
              · repeat' ((conv => whnf); first | refine CallVC.pureF hw rfl ?_ | refine splitB_f rfl ?_ | refine splitB_t rfl ?_ | refine splitB_t (beq_iff_eq.2 (by rw [hT])) ?_ | exact ⟨rfl, rfl⟩)
          exact key2 T.length 0 (by omega)
        | cons x r ihr =>
          intro i n hd hwk
          obtain ⟨hg, hd', hi⟩ := drop_cons hd
          refine hR _ _ _ ?_
          (conv => whnf)
          refine splitB_t (decide_eq_true (by omega)) ?_
          (conv => whnf)
          refine ⟨rfl, insP x, ⟨by omega, cP_get hg⟩, ?_⟩
          simp only [walkT] at hwk
          obtain ⟨o, a, b⟩ := x
          by_cases htx : tx o
          · rw [if_pos (show tx (Ins.mk o a b).op from htx)] at hwk
            split at hwk
            · cases hwk
            · rename_i hle
              have hle1 : 0 ≤ a := by simp only [] at hle; omega
              have hle2 : a ≤ n := by simp only [] at hle; omega
              have hm := walkT_le _ _ _ hwk
              have hnT : n ≤ T.length := by split at hm <;> omega
              have haT : a < T.length := by
                simp only [] at hm
                split at hm <;> omega
              rcases htx with rfl | rfl | rfl | rfl
              all_goals
                repeat' ((conv => whnf); first | refine splitB_f rfl ?_ | refine splitB_t rfl ?_)
                refine splitB_f (decide_eq_false (by show ¬ a > (n : Int); omega)) ?_
                (conv => whnf)
                refine splitB_f (decide_eq_false (by show ¬ a ≥ ((tP T).length : Int); omega)) ?_
                (conv => whnf)
                refine splitB_eq (fun e => ?_) (fun e => ?_)
                · (conv => whnf)
                  rw [if_pos e] at hwk
                  rw [IntWalk.i64_in _ (by omega), IntWalk.i64_in _ (by omega)]
                  exact ihr (i + 1) (n + 1) hd' hwk
                · (conv => whnf)
                  rw [if_neg e] at hwk
                  rw [IntWalk.i64_in _ (by omega)]
                  exact ihr (i + 1) n hd' hwk
          · rw [if_neg (show ¬ tx (Ins.mk o a b).op from htx)] at hwk
            have n1 : o ≠ 1 := fun e => htx (.inl e)
            have n2 : o ≠ 2 := fun e => htx (.inr (.inl e))
            have n3 : o ≠ 3 := fun e => htx (.inr (.inr (.inl e)))
            have n4 : o ≠ 4 := fun e => htx (.inr (.inr (.inr e)))
            (conv => whnf)
            refine splitB_t (bne_iff_ne.2 n1) ?_
            (conv => whnf)
            refine splitB_t (bne_iff_ne.2 n2) ?_
            (conv => whnf)
            refine splitB_t (bne_iff_ne.2 n3) ?_
            (conv => whnf)
            refine splitB_t (bne_iff_ne.2 n4) ?_
            (conv => whnf)
            rw [IntWalk.i64_in _ (by omega)]
            exact ihr (i + 1) n hd' hwk
      exact key C 0 0 rfl hwalk
    · have hR : ∃ n, n ≠ 0 ∧ condsR l = .tup [nilPg, .int .i64 n] := by
        rw [condsR]
        by_cases h0 : clsT l = 0
        · by_cases h1 : limB 1 (finC l)
          · exact ⟨3, by omega, by rw [if_pos h0, if_pos h1]⟩
          · exact absurd ⟨h0, h1⟩ hok
        · exact ⟨_, h0, by rw [if_neg h0]⟩
      obtain ⟨n, hn, hR⟩ := hR
      rw [hR] at hcon
      (conv => whnf)
      refine CallVC.pureF hcon rfl ?_
      (conv => whnf)
      refine splitB_t (bne_iff_ne.2 hn) ?_
      repeat' ((conv => whnf); first | refine CallVC.pureF hw rfl ?_ | refine splitB_t rfl ?_ | refine splitB_f rfl ?_ | exact ⟨rfl, rfl⟩)

end Go.Proofs.Ythmlninecfjjgaa.AD

namespace Go.Proofs.Ythmlninecfjjgaa.AD
open Go.Proofs
set_option linter.unusedVariables false
set_option linter.unusedSimpArgs false
set_option maxRecDepth 100000

def Okk (b : Bs) : Prop := 32768 < b.C.length ∨ ∀ x, x ∈ b.C → insOk x = true
theorem okk_put {x : Ins} {b : Bs} (hx : insOk x = true) (h : Okk b) : Okk (putB x b) := by
  rcases h with h | h
  · exact .inl (Nat.lt_of_lt_of_le h (putB_len x b).1)
  · by_cases hc : b.C.length ≤ 32768
    · refine .inr fun y hy => ?_
      simp only [putB, if_pos hc, List.mem_append, List.mem_singleton] at hy
      rcases hy with hy | rfl
      · exact h y hy
      · exact hx
    · exact .inl (Nat.lt_of_lt_of_le (by omega) (putB_len x b).1)
theorem ok_named (o : Int) (i : Nat) (ho : o = 1 ∨ o = 2 ∨ o = 3 ∨ o = 4 ∨ o = 34) (hi : i ≤ 1000000) : insOk ⟨o, i, 0⟩ = true := by
  have h1 : hasA o = true := by rcases ho with rfl | rfl | rfl | rfl | rfl <;> rfl
  have h2 : 1 ≤ o ∧ o ≤ 38 := by omega
  simp [insOk, fitsB, h1, h2.1, h2.2]
  omega
theorem okk_named {o : Int} {s : ByteArray} {b : Bs} (ho : o = 1 ∨ o = 2 ∨ o = 3 ∨ o = 4 ∨ o = 34) (hT : b.T.length ≤ 1000000) (h : Okk b) : Okk (namedB o s b) := by
  rw [namedB]
  split
  · rename_i i hi
    have := get_lt (tix_some hi)
    exact okk_put (ok_named o i ho (by omega)) h
  · exact okk_put (b := { b with T := b.T ++ [s] }) (ok_named o _ ho hT) h
theorem okk_land {n : Nat} {b : Bs} (h : Okk b) (hx : b.C.length ≤ 32768 → ∃ x, b.C[n]? = some x ∧ (x.op = 26 ∨ x.op = 27 ∨ x.op = 28 ∨ x.op = 29)) : Okk (landB n b) := by
  rcases h with h | h
  · exact .inl (by rw [landB_len]; exact h)
  · by_cases hc : b.C.length ≤ 32768
    · obtain ⟨x, g1, g2⟩ := hx hc
      have hlt := get_lt g1
      refine .inr fun y hy => ?_
      simp only [landB] at hy
      rw [Nat.min_eq_left (by omega), setA_get g1] at hy
      rcases List.mem_or_eq_of_mem_set hy with hy | rfl
      · exact h y hy
      · have hk := h x (List.mem_of_getElem? g1)
        simp only [insOk, fitsB, Bool.and_eq_true, Bool.or_eq_true, decide_eq_true_eq] at hk ⊢
        have hA : hasA x.op = true := by rcases g2 with e | e | e | e <;> rw [e] <;> rfl
        refine ⟨⟨⟨⟨hk.1.1.1.1, by omega, by omega⟩, hk.1.1.2⟩, .inl hA⟩, hk.2⟩
    · exact .inl (by rw [landB_len]; omega)
theorem leap_op {x : Ins} {b b' : Bs} (h : Ops (putB x b) b') : b'.C.length ≤ 32768 → ∃ y, b'.C[b.C.length]? = some y ∧ y.op = x.op := by
  intro hc
  have h1 := (putB_len x b).1
  have h2 := h.len
  have hg : (putB x b).C[b.C.length]? = some x := by
    simp only [putB, if_pos (show b.C.length ≤ 32768 by omega)]
    simp
  exact h.op _ _ hg
theorem ok_ins {o : Int} (h : arityI o = 1 ∨ arityI o = 2) : insOk ⟨insOf o, 0, 0⟩ = true := by
  rcases h with h | h
  · rcases arity1 h with rfl | rfl | rfl | rfl | rfl <;> rfl
  · rcases arity2 h with rfl | rfl | rfl | rfl | rfl | rfl | rfl | rfl | rfl | rfl | rfl | rfl | rfl | rfl | rfl | rfl <;> rfl
theorem okk_ex (e : Ex) : Shaped e → ∀ b, (b.T.length : Int) + ecnt e ≤ 1000000 → Okk b → Okk (exB e b) := by
  induction e using Ex.ind with
  | h o t xs ih =>
    intro hs b hT h
    rcases hs.args with ⟨h0, rfl⟩ | ⟨h0, a, rfl, ha⟩ | ⟨h0, a, c, rfl, ha, hc⟩
    · have hT' : b.T.length ≤ 1000000 := by simp only [ecnt, ecnts] at hT; omega
      simp only [exB]
      rcases arity0 h0 with rfl | rfl | rfl | rfl | rfl | rfl <;> simp only [Int.reduceEq, if_true, if_false] <;> first | (refine okk_put ?_ h; rfl) | (refine okk_named ?_ hT' h; omega)
    · simp only [exB]
      exact okk_put (ok_ins (.inl h0)) (ih a (by simp) ha b (by simp only [ecnt, ecnts] at hT; omega) h)
    · have h1 := ih a (by simp) ha b (by have := ecnts_pos.1 c; simp only [ecnt, ecnts] at hT; omega) h
      have had := exB_adds a ha b
      have hT1 := had.T
      have hi := ok_ins (.inr h0)
      simp only [ecnt, ecnts] at hT
      simp only [exB]
      split
      · rename_i hl
        refine okk_land (ih c (by simp) hc _ ?_ (okk_put hi h1)) fun hlen => ?_
        · rw [putB_T]; omega
        · obtain ⟨y, g1, g2⟩ := leap_op (x := ⟨insOf o, 0, 0⟩) (ops_ex c _) hlen
          exact ⟨y, g1, by rw [g2]; rcases hl with rfl | rfl <;> decide⟩
      · exact okk_put hi (ih c (by simp) hc _ (by omega) h1)
theorem okk_cls : (∀ c, checkC c = true → ∀ b, (b.T.length : Int) + ccnt c ≤ 1000000 → Okk b → Okk (clB c b)) ∧ ∀ l, checkL l = true → ∀ b, (b.T.length : Int) + ccnts l ≤ 1000000 → Okk b → Okk (clsB l b) := by
  have main : ∀ l : List Cl, (∀ c, c ∈ l → checkC c = true → ∀ b, (b.T.length : Int) + ccnt c ≤ 1000000 → Okk b → Okk (clB c b)) → checkL l = true → ∀ b, (b.T.length : Int) + ccnts l ≤ 1000000 → Okk b → Okk (clsB l b) := by
    intro l
    induction l with
    | nil => intro _ _ b _ h; exact h
    | cons c r ih =>
      intro h hc b hT hb
      simp only [checkL, Bool.and_eq_true] at hc
      simp only [ccnts] at hT
      have p2 := ccnt_pos.2 r
      have := (clB_adds.1 c hc.1 b).T
      exact ih (fun d hd => h d (by simp [hd])) hc.2 _ (by omega) (h c (by simp) hc.1 b (by omega) hb)
  have one : ∀ c, checkC c = true → ∀ b, (b.T.length : Int) + ccnt c ≤ 1000000 → Okk b → Okk (clB c b) := by
    intro c
    induction c using Cl.ind with
    | h k t v l ih =>
      intro hc b hT hb
      obtain ⟨s1, s2, s3⟩ := checkC_parts hc
      have pt := ecnts_pos.1 t
      have pv := ecnts_pos.1 v
      have pl := ccnt_pos.2 l
      simp only [ccnt] at hT
      have u1 := (tstB_adds s1 b).T
      have g1 : Okk (putB ⟨29, 0, 0⟩ b) := okk_put rfl hb
      have g2 := okk_ex t s1 _ (by rw [putB_T]; omega) g1
      have g3 : Okk (tstB t b) := okk_put rfl g2
      have fin : ∀ b4, Ops (tstB t b) b4 → Okk b4 → Okk (endB b.C.length (exB t (putB ⟨29, 0, 0⟩ b)).C.length b4) := by
        intro b4 ho h4
        refine okk_land (okk_put rfl (okk_land h4 fun hlen => ?_)) fun hlen => ?_
        · obtain ⟨y, q1, q2⟩ := leap_op (x := ⟨28, 0, 0⟩) ho hlen
          exact ⟨y, q1, by rw [q2]; decide⟩
        · obtain ⟨y, q1, q2⟩ := leap_op (x := ⟨29, 0, 0⟩) ((((ops_ex t _).trans (ops_put ⟨28, 0, 0⟩ _)).trans ho).trans ((ops_land _ _).trans (ops_put ⟨30, 0, 0⟩ _))) hlen
          exact ⟨y, q1, by rw [q2]; decide⟩
      simp only [clB]
      by_cases k1 : k = 1
      · rw [if_pos k1]; exact fin _ (ops_put _ _) (okk_put rfl g3)
      · rw [if_neg k1]
        by_cases k2 : k = 2
        · rw [if_pos k2]; exact fin _ ((ops_ex v _).trans (ops_put _ _)) (okk_put rfl (okk_ex v (s2 k2) _ (by omega) g3))
        · rw [if_neg k2]
          by_cases k3 : k = 3
          · rw [if_pos k3]; exact fin _ (ops_cl.2 l _) (main l ih s3 _ (by omega) g3)
          · rw [if_neg k3]; exact fin _ (.refl _) g3
  exact ⟨one, fun l => main l fun c _ => one c⟩
theorem okk_lic : (∀ e, chkLi e = true → ∀ b, (b.T.length : Int) + lcnt e ≤ 1000000 → Okk b → Okk (licB e b)) ∧ ∀ l, chkLs l = true → ∀ b, (b.T.length : Int) + lcnts l ≤ 1000000 → Okk b → Okk (licsB l b) := by
  have main : ∀ l : List Li, (∀ a, a ∈ l → chkLi a = true → ∀ b, (b.T.length : Int) + lcnt a ≤ 1000000 → Okk b → Okk (licB a b)) → chkLs l = true → ∀ b, (b.T.length : Int) + lcnts l ≤ 1000000 → Okk b → Okk (licsB l b) := by
    intro l
    induction l with
    | nil => intro _ _ b _ h; exact h
    | cons a r ih =>
      intro h hc b hT hb
      simp only [chkLs, Bool.and_eq_true] at hc
      simp only [lcnts] at hT
      have p2 := lcnts_pos r
      have := licB_T.1 a b
      exact ih (fun d hd => h d (by simp [hd])) hc.2 _ (by omega) (h a (by simp) hc.1 b (by omega) hb)
  have len : ∀ l : List Li, (l.length : Int) ≤ lcnts l := by
    intro l
    induction l with
    | nil => simp [lcnts]
    | cons a r ih => have := lcnt_pos a; simp only [lcnts, List.length_cons]; push_cast; omega
  have one : ∀ e, chkLi e = true → ∀ b, (b.T.length : Int) + lcnt e ≤ 1000000 → Okk b → Okk (licB e b) := by
    intro e
    induction e using Li.ind with
    | h o t k xs ih =>
      intro hc b hT hb
      have hx := len xs
      have p2 := lcnts_pos xs
      simp only [lcnt] at hT
      simp only [licB]
      simp only [chkLi] at hc
      by_cases h1 : o = 1
      · rw [if_pos h1]; exact okk_named (by decide) (by omega) hb
      · rw [if_neg h1] at hc ⊢
        simp only [Bool.and_eq_true] at hc
        obtain ⟨⟨hc1, _⟩, hc2⟩ := hc
        have h2 := main xs ih hc2 b (by omega) hb
        by_cases g2 : o = 2
        · rw [if_pos g2]; exact okk_put rfl h2
        · rw [if_neg g2]
          by_cases g3 : o = 3
          · rw [if_pos g3]; exact okk_put rfl h2
          · rw [if_neg g3]
            rw [if_neg (by omega)] at hc1
            split at hc1
            · simp only [Bool.and_eq_true, decide_eq_true_eq] at hc1
              refine okk_put ?_ h2
              have e1 : hasA 37 = true := rfl
              have e2 : hasB 37 = true := rfl
              simp [insOk, fitsB, e1, e2]
              omega
            · cases hc1
  exact ⟨one, fun l => main l fun c _ => one c⟩

/-! ### how high the stack comes -/
theorem licB_S : (∀ e, chkLi e = true → ∀ b : Bs, 0 ≤ b.h → b.h + lcnt e ≤ 1000000 → (licB e b).h = b.h + 1 ∧ b.S ≤ (licB e b).S ∧ ((licB e b).S ≤ b.S ∨ (licB e b).S ≤ b.h + lcnt e)) ∧
    ∀ l, chkLs l = true → ∀ b : Bs, 0 ≤ b.h → b.h + lcnts l ≤ 1000000 → (licsB l b).h = b.h + l.length ∧ b.S ≤ (licsB l b).S ∧ ((licsB l b).S ≤ b.S ∨ (licsB l b).S ≤ b.h + lcnts l) := by
  have hput : ∀ (x : Ins) (b : Bs) (d : Int), effI x = d → -1000000 ≤ b.h + d → b.h + d ≤ 2000000 → (putB x b).h = b.h + d ∧ b.S ≤ (putB x b).S ∧ ((putB x b).S ≤ b.S ∨ (putB x b).S ≤ b.h + d) := by
    intro x b d hd h1 h2
    have e : IntKind.i64.wrap (b.h + effI x) = b.h + d := by rw [hd]; exact IntWalk.i64_in _ (by omega)
    simp only [putB, e]
    refine ⟨trivial, ?_, ?_⟩ <;> split <;> omega
  have hnm : ∀ (s : ByteArray) (b : Bs), 0 ≤ b.h → b.h ≤ 1000000 → (namedB 34 s b).h = b.h + 1 ∧ b.S ≤ (namedB 34 s b).S ∧ ((namedB 34 s b).S ≤ b.S ∨ (namedB 34 s b).S ≤ b.h + 1) := by
    intro s b h1 h2
    rw [namedB]
    split
    · exact hput _ b 1 rfl (by omega) (by omega)
    · exact hput _ { b with T := b.T ++ [s] } 1 rfl (by show _ ≤ b.h + 1; omega) (by show b.h + 1 ≤ _; omega)
  have main : ∀ l : List Li, (∀ a, a ∈ l → chkLi a = true → ∀ b : Bs, 0 ≤ b.h → b.h + lcnt a ≤ 1000000 → (licB a b).h = b.h + 1 ∧ b.S ≤ (licB a b).S ∧ ((licB a b).S ≤ b.S ∨ (licB a b).S ≤ b.h + lcnt a)) →
      chkLs l = true → ∀ b : Bs, 0 ≤ b.h → b.h + lcnts l ≤ 1000000 → (licsB l b).h = b.h + l.length ∧ b.S ≤ (licsB l b).S ∧ ((licsB l b).S ≤ b.S ∨ (licsB l b).S ≤ b.h + lcnts l) := by
    intro l
    induction l with
    | nil => intro _ _ b _ _; simp [licsB]
    | cons a r ih =>
      intro h hc b h0 h1
      simp only [chkLs, Bool.and_eq_true] at hc
      simp only [lcnts] at h1
      have p1 := lcnt_pos a
      have p2 := lcnts_pos r
      obtain ⟨g1, g2, g3⟩ := h a (by simp) hc.1 b h0 (by omega)
      obtain ⟨q1, q2, q3⟩ := ih (fun d hd => h d (by simp [hd])) hc.2 (licB a b) (by omega) (by omega)
      simp only [licsB, lcnts, List.length_cons]
      refine ⟨by rw [q1, g1]; push_cast; omega, by omega, by omega⟩
  have one : ∀ e, chkLi e = true → ∀ b : Bs, 0 ≤ b.h → b.h + lcnt e ≤ 1000000 → (licB e b).h = b.h + 1 ∧ b.S ≤ (licB e b).S ∧ ((licB e b).S ≤ b.S ∨ (licB e b).S ≤ b.h + lcnt e) := by
    intro e
    induction e using Li.ind with
    | h o t k xs ih =>
      intro hc b h0 h1
      have p2 := lcnts_pos xs
      simp only [lcnt] at h1
      simp only [licB, lcnt]
      simp only [chkLi] at hc
      by_cases g1 : o = 1
      · rw [if_pos g1]
        obtain ⟨q1, q2, q3⟩ := hnm t b h0 (by omega)
        exact ⟨q1, q2, by omega⟩
      · rw [if_neg g1] at hc ⊢
        simp only [Bool.and_eq_true] at hc
        obtain ⟨⟨hc1, _⟩, hc2⟩ := hc
        obtain ⟨q1, q2, q3⟩ := main xs ih hc2 b h0 (by omega)
        have fin : ∀ x : Ins, effI x = 1 - xs.length → (xs.length : Int) ≤ 1000000 → (putB x (licsB xs b)).h = b.h + 1 ∧ b.S ≤ (putB x (licsB xs b)).S ∧ ((putB x (licsB xs b)).S ≤ b.S ∨ (putB x (licsB xs b)).S ≤ b.h + (1 + lcnts xs)) := by
          intro x hx hxl
          obtain ⟨r1, r2, r3⟩ := hput x (licsB xs b) (1 - xs.length) hx (by omega) (by omega)
          exact ⟨by rw [r1, q1]; omega, by omega, by omega⟩
        by_cases g2 : o = 2
        · rw [if_pos (.inl g2)] at hc1
          simp only [Bool.and_eq_true, decide_eq_true_eq] at hc1
          rw [if_pos g2]
          exact fin _ (by rw [hc1.2]; rfl) (by omega)
        · by_cases g3 : o = 3
          · rw [if_pos (.inr g3)] at hc1
            simp only [Bool.and_eq_true, decide_eq_true_eq] at hc1
            rw [if_neg g2, if_pos g3]
            exact fin _ (by rw [hc1.2]; rfl) (by omega)
          · rw [if_neg g2, if_neg g3]
            have len : ∀ l : List Li, (l.length : Int) ≤ lcnts l := by
              intro l
              induction l with
              | nil => simp [lcnts]
              | cons a r ih => have := lcnt_pos a; simp only [lcnts, List.length_cons]; push_cast; omega
            have hxl := len xs
            refine fin _ ?_ (by omega)
            show IntKind.i64.wrap (1 - (xs.length : Int)) = _
            exact IntWalk.i64_in _ (by omega)
  exact ⟨one, fun l => main l fun c _ => one c⟩

/-- What may be written, where no limit is in the way. -/
theorem err_ok {κ : Int} {b : Bs} (hκ : κ = 1 ∨ κ = 2) (hb : Okk b) (hS : 0 ≤ b.S) (hS2 : b.S ≤ 2147483647) (h : ¬ limB κ b) : errP κ b.T b.C b.S = 0 := by
  have h3 : errP κ b.T b.C b.S ≠ 3 := fun e => h (.inl e)
  rw [errP] at h3 ⊢
  split at h3
  · exact absurd rfl h3
  · rename_i h1
    rw [if_neg h1]
    rcases hb with hb | hb
    · omega
    · have hall : b.C.all insOk = true := List.all_eq_true.2 hb
      have hf : fitsB b.S = true := by simp [fitsB, hS, hS2]
      rw [if_neg (by rw [hall, hf]; simp; omega)] at h3 ⊢
      split at h3
      · exact absurd rfl h3
      · rename_i h2; rw [if_neg h2]

theorem putB_S0 {x : Ins} {b : Bs} (h : 0 ≤ b.S) : 0 ≤ (putB x b).S := by simp only [putB]; split <;> omega
theorem S0_named (o : Int) (s : ByteArray) {b : Bs} (h : 0 ≤ b.S) : 0 ≤ (namedB o s b).S := by
  rw [namedB]; split <;> exact putB_S0 h
theorem S0_ex (e : Ex) : ∀ b : Bs, 0 ≤ b.S → 0 ≤ (exB e b).S := by
  induction e using Ex.ind with
  | h o t xs ih =>
    intro b h
    match xs, ih with
    | [], _ => simp only [exB]; (repeat' split) <;> first | exact S0_named _ _ h | exact putB_S0 h | exact h
    | [a], ih => simp only [exB]; exact putB_S0 (ih a (by simp) b h)
    | [a, c], ih =>
      simp only [exB]
      split
      · exact ih c (by simp) _ (putB_S0 (ih a (by simp) b h))
      · exact putB_S0 (ih c (by simp) _ (ih a (by simp) b h))
    | _ :: _ :: _ :: _, _ => exact h
theorem S0_cls : (∀ c (b : Bs), 0 ≤ b.S → 0 ≤ (clB c b).S) ∧ ∀ l (b : Bs), 0 ≤ b.S → 0 ≤ (clsB l b).S := by
  have main : ∀ l : List Cl, (∀ c, c ∈ l → ∀ b : Bs, 0 ≤ b.S → 0 ≤ (clB c b).S) → ∀ b : Bs, 0 ≤ b.S → 0 ≤ (clsB l b).S := by
    intro l
    induction l with
    | nil => intro _ b h; exact h
    | cons c r ih => intro h b hb; exact ih (fun d hd => h d (by simp [hd])) _ (h c (by simp) b hb)
  have one : ∀ c (b : Bs), 0 ≤ b.S → 0 ≤ (clB c b).S := by
    intro c
    induction c using Cl.ind with
    | h k t v l ih =>
      intro b hb
      have h1 : 0 ≤ (tstB t b).S := putB_S0 (S0_ex t _ (putB_S0 hb))
      have h2 : ∀ n m (b4 : Bs), 0 ≤ b4.S → 0 ≤ (endB n m b4).S := fun n m b4 h4 => putB_S0 (b := landB m b4) h4
      simp only [clB]
      refine h2 _ _ _ ?_
      (repeat' split) <;> first | exact putB_S0 h1 | exact putB_S0 (S0_ex v _ h1) | exact main l ih _ h1 | exact h1
  exact ⟨one, fun l => main l fun c _ => one c⟩

theorem conds_ok (l : List Cl) (hck : checkL l = true) (hcnt : ccnts l ≤ 20000) (h : ¬ limB 1 (finC l)) : errP 1 (finC l).T (finC l).C (finC l).S = 0 := by
  have h0 : 0 ≤ (finC l).S := putB_S0 (S0_cls.2 l b0 (by simp [b0]))
  have h1 : (finC l).S ≤ 1024 := by
    by_cases h9 : (finC l).S ≤ 1024
    · exact h9
    · exact absurd (.inr ⟨rfl, by omega⟩) h
  exact err_ok (.inl rfl) (okk_put rfl (okk_cls.2 l hck b0 (by simp [b0]; omega) (.inr fun x hx => by cases hx))) h0 (by omega) h
theorem lics_ok (e : Li) (hck : chkLi e = true) (hcnt : lcnt e ≤ 20000) (h : ¬ limB 2 (finL e)) : errP 2 (finL e).T (finL e).C (finL e).S = 0 := by
  obtain ⟨q1, q2, q3⟩ := licB_S.1 e hck b0 (by simp [b0]) (by simp [b0]; omega)
  have e0 : b0.S = 0 := rfl
  have e1 : b0.h = 0 := rfl
  have h0 : 0 ≤ (finL e).S := putB_S0 (by omega)
  have h2 : (finL e).S ≤ 1000000 := by
    have ef : effI ⟨38, 0, 0⟩ = -1 := rfl
    have ew : IntKind.i64.wrap ((licB e b0).h + effI ⟨38, 0, 0⟩) = (licB e b0).h - 1 := by rw [ef]; exact IntWalk.i64_in _ (by omega)
    simp only [finL, putB, ew]
    split <;> omega
  exact err_ok (.inr rfl) (okk_put rfl (okk_lic.1 e hck b0 (by simp [b0]; omega) (.inr fun x hx => by cases hx))) h0 (by omega) h

end Go.Proofs.Ythmlninecfjjgaa.AD

namespace Go.Proofs.Ythmlninecfjjgaa.AD
open Go.Proofs
set_option linter.unusedVariables false
set_option linter.unusedSimpArgs false
set_option maxRecDepth 100000

def codeP : List Ins → List PV
  | [] => []
  | x :: r => .int .u8 x.op :: ((if hasA x.op then numP 5 x.a else []) ++ ((if hasB x.op then numP 5 x.b else []) ++ codeP r))
def txtP : List ByteArray → List PV
  | [] => []
  | t :: r => numP 5 t.size ++ (byteInts t ++ txtP r)
def encP (κ : Int) (T : List ByteArray) (C : List Ins) (S : Int) : List PV := .int .u8 86 :: .int .u8 80 :: .int .u8 κ :: (numP 5 S ++ (numP 5 T.length ++ (txtP T ++ (numP 5 C.length ++ codeP C))))

theorem write_enc (κ : Int) (T : List ByteArray) (C : List Ins) (S : Int) (hTl : T.length ≤ 8192) (hCl : C.length ≤ 32768) (hS : 0 ≤ S ∧ S ≤ 2147483647) (hok : C.all insOk = true) (K : AV → List Ob → List Ob → Prop)
    (hsmall : hdSz T C S + codeSz C + txtSz T ≤ 1048576)
    (h : ∀ (g : Nat), K (.view (.l 2) g 1 (encP κ T C S).length) [] [pgCells κ T C S, pgCells κ T C S, .buf g 1 (encP κ T C S)]) :
    CallVC Try.prog 66 [.p (encPg κ T C S)] [] [pgCells κ T C S] K := by
  have hT := tP_len T
  have hC := cP_len C
  have hdef : hdSz T C S = 3 + szN 5 S + szN 5 T.length + szN 5 C.length := rfl
  have l1 := numP_len 5 S
  have l2 := numP_len 5 T.length
  have l3 := numP_len 5 C.length
  have r1 := szN_range 5 S
  have r2 := szN_range 5 T.length
  have r3 := szN_range 5 C.length
  refine CallVC.inline f66_ok ?_
  (conv => whnf)
  refine CallVC.methV' [2, 0, 1] 3 [pgCells κ T C S, pgCells κ T C S, .buf (0 + (numP 5 S).length) 1 ([.int .u8 86, .int .u8 80, .int .u8 κ] ++ numP 5 S)] (.view (.l 2) (0 + (numP 5 S).length) 1 (3 + (numP 5 S).length))
    (put_at S hS.1 hS.2 0 3 [.int .u8 86, .int .u8 80, .int .u8 κ] rfl (by simp)) rfl rfl rfl rfl rfl rfl (by decide) (by decide) rfl ?_
  (conv => whnf)
  rw [hT]
  generalize hy1 : ([.int .u8 86, .int .u8 80, .int .u8 κ] : List PV) ++ numP 5 S = y1
  generalize hg1 : 0 + (numP 5 S).length = g1
  generalize hn1 : 3 + (numP 5 S).length = n1
  have e1 : n1 = y1.length := by rw [← hn1, ← hy1]; simp; omega
  have b1 : n1 ≤ 10 := by omega
  refine CallVC.methV' [2, 0, 1] 3 [pgCells κ T C S, pgCells κ T C S, .buf (g1 + (numP 5 T.length).length) 1 (y1 ++ numP 5 T.length)] (.view (.l 2) (g1 + (numP 5 T.length).length) 1 (n1 + (numP 5 T.length).length))
    (put_at T.length (by omega) (by omega) g1 n1 y1 e1 (by omega)) rfl rfl rfl rfl rfl rfl (by decide) (by decide) rfl ?_
  (conv => whnf)
  generalize hy2 : y1 ++ numP 5 T.length = y2
  generalize hg2 : g1 + (numP 5 T.length).length = g2
  generalize hn2 : n1 + (numP 5 T.length).length = n2
  have e2 : n2 = y2.length := by rw [← hn2, ← hy2, e1]; simp
  have t2 : (n2 : Int) + szN 5 C.length = hdSz T C S := by omega
  have codes : ∀ (g n : Nat) (ys : List PV), n = ys.length → (n : Int) + szN 5 C.length = hdSz T C S + txtSz T → n ≤ 2000000 → ys ++ (numP 5 C.length ++ codeP C) = encP κ T C S → W Try.prog f66.c48 [(1, .ref (.l 1) 0), (3, .view (.l 2) g 1 n)] [] [pgCells κ T C S, pgCells κ T C S, .buf g 1 ys] (endI f66 K) := by
    intro g n ys hn ht hb hE
    (conv => whnf)
    rw [hC]
    refine CallVC.methV' [2, 0, 1] 3 [pgCells κ T C S, pgCells κ T C S, .buf (g + (numP 5 C.length).length) 1 (ys ++ numP 5 C.length)] (.view (.l 2) (g + (numP 5 C.length).length) 1 (n + (numP 5 C.length).length))
      (put_at C.length (by omega) (by omega) g n ys hn (by omega)) rfl rfl rfl rfl rfl rfl (by decide) (by decide) rfl ?_
    (conv => whnf)
    generalize hy2 : ys ++ numP 5 C.length = zs
    generalize hg2 : g + (numP 5 C.length).length = gz
    generalize hn2 : n + (numP 5 C.length).length = nz
    have hE : zs ++ codeP C = encP κ T C S := by rw [← hy2, List.append_assoc]; exact hE
    have ez : nz = zs.length := by rw [← hn2, ← hy2, hn]; simp
    have tz : (nz : Int) = hdSz T C S + txtSz T := by omega
    have bz : nz ≤ 2000010 := by omega
    intro R hR
    have key : ∀ (rest : List Ins) (i g n : Nat) (ys : List PV), C.drop i = rest → i ≤ C.length → n = ys.length → (n : Int) + codeSz rest = hdSz T C S + codeSz C + txtSz T → n ≤ 2000010 + 13 * i → ys ++ codeP rest = encP κ T C S → R [(3, .view (.l 2) g 1 n), (47, .p (.list 3 (cP C))), (48, .p (.int .i64 (cP C).length)), (49, .p (.int .i64 i))] [] [pgCells κ T C S, pgCells κ T C S, .buf g 1 ys] := by
      intro rest
      induction rest with
      | nil =>
        intro i g n ys hd hil hn ht hb hE
        have hl := drop_nil hd
        have hE : ys = encP κ T C S := by simpa [codeP] using hE
        subst hE
        simp only [codeSz] at ht
        refine hR _ _ _ ?_
        (conv => whnf)
        refine splitB_f (decide_eq_false (by omega)) ?_
        (conv => whnf)
        rw [hn]
        exact h g
      | cons x r ihr =>
        intro i g n ys hd hil hn ht hb hE
        have hE : ys ++ (.int .u8 x.op :: ((if hasA x.op then numP 5 x.a else []) ++ ((if hasB x.op then numP 5 x.b else []) ++ codeP r))) = encP κ T C S := hE
        obtain ⟨hg, hd', hi⟩ := drop_cons hd
        have hx : insOk x = true := by
          rw [List.all_eq_true] at hok
          exact hok x (List.mem_of_getElem? hg)
        obtain ⟨⟨a1, a2⟩, b1', b2'⟩ := insOk_fits hx
        have ho := codeOf_spec x.op
        have hA : (IntKind.u8.wrap (BitVec.ofInt IntKind.u8.bits (shp x.op) &&& BitVec.ofInt IntKind.u8.bits 1).toNat != 0) = hasA x.op := shp_and1 x.op
        have hB : (IntKind.u8.wrap (BitVec.ofInt IntKind.u8.bits (shp x.op) &&& BitVec.ofInt IntKind.u8.bits 2).toNat != 0) = hasB x.op := shp_and2 x.op
        have hdx : insSz x = 1 + (if hasA x.op then szN 5 x.a else 0) + (if hasB x.op then szN 5 x.b else 0) := rfl
        have hra := szN_range 5 x.a
        have hrb := szN_range 5 x.b
        have la := numP_len 5 x.a
        have lb := numP_len 5 x.b
        simp only [codeSz] at ht
        refine hR _ _ _ ?_
        (conv => whnf)
        refine splitB_t (decide_eq_true (by omega)) ?_
        (conv => whnf)
        refine ⟨rfl, insP x, ⟨by omega, cP_get hg⟩, ?_⟩
        (conv => whnf)
        refine ⟨rfl, ?_⟩
        (conv => whnf)
        refine ⟨⟨rfl, rfl, rfl, by omega⟩, by simp [room]; omega, ys ++ [.int .u8 x.op], by rw [List.take_of_length_le (by omega)], ?_⟩
        (conv => whnf)
        refine CallVC.pureF ho rfl ?_
        (conv => whnf)
        rw [hA]
        generalize hasA x.op = va at hA hdx hE
        generalize hasB x.op = vb at hB hdx hE
        cases va <;> cases vb
        all_goals simp only [Bool.false_eq_true, if_false, if_true, List.nil_append] at hdx hE
        · refine splitB_f rfl ?_
          (conv => whnf)
          refine CallVC.pureF ho rfl ?_
          (conv => whnf)
          rw [hB]
          refine splitB_f rfl ?_
          (conv => whnf)
          rw [IntWalk.i64_in (i + 1) (by omega)]
          exact ihr (i + 1) (g + 1) (n + 1) (ys ++ [.int .u8 x.op]) hd' (by omega) (by rw [hn]; simp <;> omega) (by push_cast; omega) (by push_cast; omega) (by rw [← hE]; simp)
        · refine splitB_f rfl ?_
          (conv => whnf)
          refine CallVC.pureF ho rfl ?_
          (conv => whnf)
          rw [hB]
          refine splitB_t rfl ?_
          (conv => whnf)
          refine CallVC.methV' [2, 0, 1, 3] 4 [pgCells κ T C S, pgCells κ T C S, .buf (g + 1 + (numP 5 x.b).length) 1 (ys ++ [.int .u8 x.op] ++ numP 5 x.b), .cells [.p (.int .u8 x.op), .p (.int .i64 x.a), .p (.int .i64 x.b)]] (.view (.l 2) (g + 1 + (numP 5 x.b).length) 1 (n + 1 + (numP 5 x.b).length))
            (put_at x.b b1' b2' (g + 1) (n + 1) (ys ++ [.int .u8 x.op]) (by rw [hn]; simp <;> omega) (by simp; omega)) rfl rfl rfl rfl rfl rfl (by decide) (by decide) rfl ?_
          (conv => whnf)
          rw [IntWalk.i64_in (i + 1) (by omega)]
          exact ihr (i + 1) (g + 1 + (numP 5 x.b).length) (n + 1 + (numP 5 x.b).length) (ys ++ [.int .u8 x.op] ++ numP 5 x.b) hd' (by omega) (by rw [hn]; simp <;> omega) (by push_cast; omega) (by push_cast; omega) (by rw [← hE]; simp)
        · refine splitB_t rfl ?_
          (conv => whnf)
          refine CallVC.methV' [2, 0, 1, 3] 4 [pgCells κ T C S, pgCells κ T C S, .buf (g + 1 + (numP 5 x.a).length) 1 (ys ++ [.int .u8 x.op] ++ numP 5 x.a), .cells [.p (.int .u8 x.op), .p (.int .i64 x.a), .p (.int .i64 x.b)]] (.view (.l 2) (g + 1 + (numP 5 x.a).length) 1 (n + 1 + (numP 5 x.a).length))
            (put_at x.a a1 a2 (g + 1) (n + 1) (ys ++ [.int .u8 x.op]) (by rw [hn]; simp <;> omega) (by simp; omega)) rfl rfl rfl rfl rfl rfl (by decide) (by decide) rfl ?_
          (conv => whnf)
          refine CallVC.pureF ho rfl ?_
          (conv => whnf)
          rw [hB]
          refine splitB_f rfl ?_
          (conv => whnf)
          rw [IntWalk.i64_in (i + 1) (by omega)]
          exact ihr (i + 1) (g + 1 + (numP 5 x.a).length) (n + 1 + (numP 5 x.a).length) (ys ++ [.int .u8 x.op] ++ numP 5 x.a) hd' (by omega) (by rw [hn]; simp <;> omega) (by push_cast; omega) (by push_cast; omega) (by rw [← hE]; simp)
        · refine splitB_t rfl ?_
          (conv => whnf)
          refine CallVC.methV' [2, 0, 1, 3] 4 [pgCells κ T C S, pgCells κ T C S, .buf (g + 1 + (numP 5 x.a).length) 1 (ys ++ [.int .u8 x.op] ++ numP 5 x.a), .cells [.p (.int .u8 x.op), .p (.int .i64 x.a), .p (.int .i64 x.b)]] (.view (.l 2) (g + 1 + (numP 5 x.a).length) 1 (n + 1 + (numP 5 x.a).length))
            (put_at x.a a1 a2 (g + 1) (n + 1) (ys ++ [.int .u8 x.op]) (by rw [hn]; simp <;> omega) (by simp; omega)) rfl rfl rfl rfl rfl rfl (by decide) (by decide) rfl ?_
          (conv => whnf)
          refine CallVC.pureF ho rfl ?_
          (conv => whnf)
          rw [hB]
          refine splitB_t rfl ?_
          (conv => whnf)
          refine CallVC.methV' [2, 0, 1, 3] 4 [pgCells κ T C S, pgCells κ T C S, .buf (g + 1 + (numP 5 x.a).length + (numP 5 x.b).length) 1 (ys ++ [.int .u8 x.op] ++ numP 5 x.a ++ numP 5 x.b), .cells [.p (.int .u8 x.op), .p (.int .i64 x.a), .p (.int .i64 x.b)]] (.view (.l 2) (g + 1 + (numP 5 x.a).length + (numP 5 x.b).length) 1 (n + 1 + (numP 5 x.a).length + (numP 5 x.b).length))
            (put_at x.b b1' b2' (g + 1 + (numP 5 x.a).length) (n + 1 + (numP 5 x.a).length) (ys ++ [.int .u8 x.op] ++ numP 5 x.a) (by rw [hn]; simp <;> omega) (by simp; omega)) rfl rfl rfl rfl rfl rfl (by decide) (by decide) rfl ?_
          (conv => whnf)
          rw [IntWalk.i64_in (i + 1) (by omega)]
          exact ihr (i + 1) (g + 1 + (numP 5 x.a).length + (numP 5 x.b).length) (n + 1 + (numP 5 x.a).length + (numP 5 x.b).length) (ys ++ [.int .u8 x.op] ++ numP 5 x.a ++ numP 5 x.b) hd' (by omega) (by rw [hn]; simp <;> omega) (by push_cast; omega) (by push_cast; omega) (by rw [← hE]; simp)
    exact key C 0 gz nz zs rfl (by omega) ez (by omega) (by omega) hE
  intro R hR
  have key : ∀ (rest : List ByteArray) (i g n : Nat) (ys : List PV), T.drop i = rest → n = ys.length → (n : Int) + szN 5 C.length + txtSz rest = hdSz T C S + txtSz T → n ≤ 1048600 → ys ++ (txtP rest ++ (numP 5 C.length ++ codeP C)) = encP κ T C S → R [(1, .ref (.l 1) 0), (3, .view (.l 2) g 1 n), (21, .p (.list 1 (tP T))), (22, .p (.int .i64 (tP T).length)), (23, .p (.int .i64 i))] [] [pgCells κ T C S, pgCells κ T C S, .buf g 1 ys] := by
    intro rest
    induction rest with
    | nil =>
      intro i g n ys hd hn ht hb hE
      have hl := drop_nil hd
      simp only [txtSz] at ht
      refine hR _ _ _ ?_
      (conv => whnf)
      refine splitB_f (decide_eq_false (by omega)) ?_
      have q := codes g n ys hn (by omega) (by omega) hE
      (conv at q => whnf)
      (conv => whnf)
      exact q
    | cons t r ihr =>
      intro i g n ys hd hn ht hb hE
      obtain ⟨hg, hd', hi⟩ := drop_cons hd
      have hnn := txtSz_nonneg r
      have hrg := szN_range 5 t.size
      have lt := numP_len 5 t.size
      have hcc := codeSz_range C
      simp only [txtSz] at ht
      refine hR _ _ _ ?_
      (conv => whnf)
      refine splitB_t (decide_eq_true (by omega)) ?_
      (conv => whnf)
      refine ⟨rfl, .str t, ⟨by omega, tP_get hg⟩, ?_⟩
      (conv => whnf)
      refine ⟨rfl, ?_⟩
      (conv => whnf)
      rw [IntWalk.i64_in (1048576 - (n : Int)) (by omega)]
      refine splitB_dec (fun h1 => ?_) (fun h1 => ?_)
      · exfalso; omega
      · (conv => whnf)
        refine CallVC.methV' [2, 0, 1] 3 [pgCells κ T C S, pgCells κ T C S, .buf (g + (numP 5 t.size).length) 1 (ys ++ numP 5 t.size)] (.view (.l 2) (g + (numP 5 t.size).length) 1 (n + (numP 5 t.size).length))
          (put_at t.size (by omega) (by omega) g n ys hn (by omega)) rfl rfl rfl rfl rfl rfl (by decide) (by decide) rfl ?_
        (conv => whnf)
        have hbl : (byteInts t).length = t.size := by rw [byteInts, List.length_map, ba_size]
        refine ⟨⟨rfl, rfl, rfl, by simp; omega⟩, by simp [room, hbl]; omega, (ys ++ numP 5 t.size) ++ byteInts t, by rw [List.take_of_length_le (by simp; omega)], ?_⟩
        (conv => whnf)
        rw [hbl, IntWalk.i64_in (i + 1) (by omega)]
        exact ihr (i + 1) _ _ _ hd' (by rw [hn]; simp [hbl]; omega) (by push_cast; omega) (by omega) (by rw [← hE]; simp [txtP])
  exact key T 0 g2 n2 y2 rfl e2 (by omega) (by omega) (by rw [← hy2, ← hy1]; simp [encP])

theorem codeP_len : ∀ C : List Ins, ((codeP C).length : Int) = codeSz C
  | [] => rfl
  | x :: r => by
    have h1 := codeP_len r
    have la := numP_len 5 x.a
    have lb := numP_len 5 x.b
    have e0 : (([] : List PV).length : Int) = 0 := rfl
    simp only [codeP, codeSz, insSz, List.length_cons, List.length_append]
    push_cast
    cases hasA x.op <;> cases hasB x.op <;> simp only [Bool.false_eq_true, if_false, if_true] <;> omega
theorem txtP_len : ∀ T : List ByteArray, ((txtP T).length : Int) = txtSz T
  | [] => rfl
  | t :: r => by
    have h1 := txtP_len r
    have la := numP_len 5 t.size
    have hbl : (byteInts t).length = t.size := by rw [byteInts, List.length_map, ba_size]
    simp only [txtP, txtSz, List.length_append, hbl]
    push_cast
    omega
theorem encP_len (κ : Int) (T : List ByteArray) (C : List Ins) (S : Int) : ((encP κ T C S).length : Int) = hdSz T C S + codeSz C + txtSz T := by
  have h1 := codeP_len C
  have h2 := txtP_len T
  have l1 := numP_len 5 S
  have l2 := numP_len 5 T.length
  have l3 := numP_len 5 C.length
  simp only [encP, hdSz, List.length_cons, List.length_append]
  push_cast
  omega
theorem numP_flat (f : Nat) : ∀ u e, e ∈ numP f u → Flat e := by
  induction f with
  | zero => intro u e h; simp only [numP, List.mem_singleton] at h; subst h; exact .int _ _
  | succ f ih =>
    intro u e h
    simp only [numP] at h
    split at h
    · rcases List.mem_cons.1 h with rfl | h
      · exact .int _ _
      · exact ih _ e h
    · simp only [List.mem_singleton] at h; subst h; exact .int _ _
theorem codeP_flat : ∀ (C : List Ins) e, e ∈ codeP C → Flat e
  | [], e, h => by cases h
  | x :: r, e, h => by
    simp only [codeP, List.mem_cons, List.mem_append] at h
    rcases h with rfl | h | h | h
    · exact .int _ _
    · split at h
      · exact numP_flat 5 _ e h
      · cases h
    · split at h
      · exact numP_flat 5 _ e h
      · cases h
    · exact codeP_flat r e h
theorem txtP_flat : ∀ (T : List ByteArray) e, e ∈ txtP T → Flat e
  | [], e, h => by cases h
  | t :: r, e, h => by
    simp only [txtP, List.mem_append] at h
    rcases h with h | h | h
    · exact numP_flat 5 _ e h
    · rw [byteInts, List.mem_map] at h
      obtain ⟨b, _, rfl⟩ := h
      exact .int _ _
    · exact txtP_flat r e h
theorem encP_flat (κ : Int) (T : List ByteArray) (C : List Ins) (S : Int) : ∀ e, e ∈ encP κ T C S → Flat e := fun e h => by
  simp only [encP, List.mem_cons, List.mem_append] at h
  rcases h with rfl | rfl | rfl | h | h | h | h | h
  · exact .int _ _
  · exact .int _ _
  · exact .int _ _
  · exact numP_flat 5 _ e h
  · exact numP_flat 5 _ e h
  · exact txtP_flat T e h
  · exact numP_flat 5 _ e h
  · exact codeP_flat C e h

/-- Encode, where a program may be written. -/
theorem Encode_pure (κ : Int) (T : List ByteArray) (C : List Ins) (S : Int) (h : errP κ T C S = 0) : pureF Try.prog 45 [.p (encPg κ T C S)] (.p (.tup [.list 1 (encP κ T C S), .int .i64 0])) := by
  refine pureF_fresh (ps := [encPg κ T C S]) ?_
  have hT := tP_len T
  have hC := cP_len C
  have hlim : ¬ (32768 < C.length ∨ 8192 < T.length) := fun e => by rw [errP, if_pos e] at h; cases h
  have hbad : ¬ ((κ ≠ 1 ∧ κ ≠ 2) ∨ fitsB S = false ∨ C.all insOk = false) := fun e => by rw [errP, if_neg hlim, if_pos e] at h; cases h
  have hsm : ¬ 1048576 < hdSz T C S + codeSz C + txtSz T := fun e => by rw [errP, if_neg hlim, if_neg hbad, if_pos e] at h; cases h
  have hκ : κ = 1 ∨ κ = 2 := by omega
  have hS : fitsB S = true := by cases hq : fitsB S with | true => rfl | false => exact absurd (.inr (.inl hq)) hbad
  have hall : C.all insOk = true := by cases hq : C.all insOk with | true => rfl | false => exact absurd (.inr (.inr hq)) hbad
  have hS' : 0 ≤ S ∧ S ≤ 2147483647 := by simpa [fitsB] using hS
  have hrS := right_code_spec S true
  have hrf : rightB S true = true := by rw [← hS, rightB, fitsB, Bool.eq_iff_iff]; simp; omega
  rw [hrf] at hrS
  have hany : pureF Try.prog 64 [.p (.list 3 (cP C)), .p (.fn (.func 65))] (.p (.bool false)) := by
    have h1 := ContainsFuncI_spec C (by omega) (fun x => !insOk x) 65 (by kernel_rfl) fun a _ => codeWrong_spec a
    have h2 : (C.any fun x => !insOk x) = !C.all insOk := by rw [List.not_all_eq_any_not]
    rw [h2, hall] at h1
    exact h1
  have hlen := encP_len κ T C S
  refine CallVC.inline f45_ok ?_
  (conv => whnf)
  refine splitB_f (decide_eq_false (by omega)) ?_
  (conv => whnf)
  refine splitB_f (decide_eq_false (by omega)) ?_
  rcases hκ with rfl | rfl
  all_goals
    repeat' ((conv => whnf); first | refine CallVC.pureF hrS rfl ?_ | refine CallVC.pureF hany rfl ?_ | refine splitB_t rfl ?_ | refine splitB_f rfl ?_)
    refine write_enc _ T C S (by omega) (by omega) hS' hall _ (by omega) fun g => ?_
    (conv => whnf)
    refine ⟨rfl, ?_⟩
    (conv => whnf)
    refine splitB_f (decide_eq_false (by omega)) ?_
    (conv => whnf)
    refine .tup _ _ rfl fun n c p hc hp => ?_
    match n, hc, hp with
    | 0, hc, hp => cases hc; cases hp; exact .view _ _ _ _ _ rfl rfl (encP_flat _ T C S)
    | 1, hc, hp => cases hc; cases hp; exact .p _ (.int _ _)

end Go.Proofs.Ythmlninecfjjgaa.AD

namespace Go.Proofs.Ythmlninecfjjgaa.AD
open Go.Proofs
set_option linter.unusedVariables false
set_option maxRecDepth 100000
/-! vouch/code.Decode -/
def g46.c0 : IC := (.ops [O 2 (.alloc [(.int .u8 0), .nils, .nils, (.int .i64 0)]), O 3 (.mv (I 0)), O 4 (.mv (I 0))])
def g46.c1 : IC := (.ops [O 11 (.mv (.t 0)), O 12 (.len (.t 11)), O 13 (.bin .gtr (.t 12) (I 1048576))])
def g46.c2 : IC := (.ops [O 14 (.build [(.int .u8 0), .nils, .nils, (.int .i64 0)] []), OZ (.store 4 (.t 2) (.t 14)), O 3 (.mv (I 0)), O 4 (.mv (I 3))])
def g46.c3 : IC := (.seq g46.c2 .ret)
def g46.c4 : IC := (.cond (.t 13) g46.c3 .skip)
def g46.c5 : IC := (.seq g46.c1 g46.c4)
def g46.c6 : IC := (.ops [O 15 (.mv (.t 0)), O 16 (.build [.nils, (.int .i64 0), (.int .i64 0), (.int .i64 0)] [(0, 1, (.t 15))]), O 17 (.box (.t 16)), O 5 (.mv (.t 17))])
def g46.c7 : IC := (.ops [O 18 (.mv (.t 5)), O 19 (.mv (.t 6)), O 20 (.callv (.t 19) [(U 86)]), O 21 (.call 69 [(.t 18), (.t 20)])])
def g46.c8 : IC := (.ops [O 22 (.mv (.t 5)), O 23 (.mv (.t 6)), O 24 (.callv (.t 23) [(U 80)]), O 25 (.call 69 [(.t 22), (.t 24)])])
def g46.c9 : IC := (.ops [O 26 (.mv (.t 5)), O 27 (.call 69 [(.t 26), (.v (.p (.fn (.func 70))))]), O 28 (.fieldA 0 (.t 7)), OZ (.store 1 (.t 28) (.t 27))])
def g46.c10 : IC := (.ops [O 29 (.mv (.t 5)), O 30 (.call 71 [(.t 29), (I 2147483647)]), O 31 (.fieldA 3 (.t 7)), OZ (.store 1 (.t 31) (.t 30))])
def g46.c11 : IC := (.ops [O 32 (.mv (.t 5)), O 33 (.call 71 [(.t 32), (I 8192)]), O 8 (.mv (.t 33))])
def g46.c12 : IC := (.ops [O 34 (.mv (.t 8)), O 35 (.bin .gtr (.t 34) (I 0)), OS 36 (.mv (.t 35)), OG 37 36 true (.mv (.t 5)), OG 38 36 true (.nilck (.t 37)), OG 39 36 true (.fieldA 2 (.t 38)), OG 40 36 true (.load none (.t 39)), OG 41 36 true (.bin .eql (.t 40) (I 0)), O 42 (.pick (.t 36) (.t 41) (.v (.p (.bool false))))])
def g46.c13 : IC := (.cut [0, 2, 5, 7, 8, 42] g46.c12 (.cond (.t 42) .skip (.exit 0)))
def g46.c14 : IC := (.eops [O 45 (.fieldA 1 (.t 7)), O 46 (.load none (.t 45)), O 47 (.mv (.t 5)), O 48 (.callE 72 [(.t 47)]), O 49 (.lit false 1 (.str ⟨#[]⟩) 1 [(0, (.t 48))]), O 50 (.app 1 16 (.t 46) (.t 49)), O 51 (.fieldA 1 (.t 7)), OZ (.store 1 (.t 51) (.t 50))] [0, 1, 0, 4, 12, 31, 63, 127])
def g46.c15 : IC := (.block 1 g46.c14)
def g46.c16 : IC := (.ops [O 43 (.mv (.t 8)), O 44 (.bin .sub (.t 43) (I 1)), O 8 (.mv (.t 44))])
def g46.c17 : IC := (.cut [0, 2, 5, 7, 8] g46.c15 g46.c16)
def g46.c18 : IC := (.cut [0, 2, 5, 7, 8] g46.c13 g46.c17)
def g46.c19 : IC := (.loop [0, 2, 5, 7, 8] g46.c18)
def g46.c20 : IC := (.block 0 g46.c19)
def g46.c21 : IC := (.seq g46.c11 g46.c20)
def g46.c22 : IC := (.ops [O 52 (.mv (.t 5)), O 53 (.call 71 [(.t 52), (I 32768)]), O 9 (.mv (.t 53))])
def g46.c23 : IC := (.ops [O 54 (.mv (.t 9)), O 55 (.bin .gtr (.t 54) (I 0)), OS 56 (.mv (.t 55)), OG 57 56 true (.mv (.t 5)), OG 58 56 true (.nilck (.t 57)), OG 59 56 true (.fieldA 2 (.t 58)), OG 60 56 true (.load none (.t 59)), OG 61 56 true (.bin .eql (.t 60) (I 0)), O 62 (.pick (.t 56) (.t 61) (.v (.p (.bool false))))])
def g46.c24 : IC := (.cut [0, 2, 5, 7, 9, 62] g46.c23 (.cond (.t 62) .skip (.exit 2)))
def g46.c25 : IC := (.ops [O 65 (.mv (.t 5)), O 66 (.call 69 [(.t 65), (.v (.p (.fn (.func 73))))]), O 67 (.build [(.int .u8 0), (.int .i64 0), (.int .i64 0)] [(0, 1, (.t 66))]), O 10 (.alloc [(.int .u8 0), (.int .i64 0), (.int .i64 0)]), OZ (.store 3 (.t 10) (.t 67))])
def g46.c26 : IC := (.ops [O 68 (.fieldA 0 (.t 10)), O 69 (.load none (.t 68)), O 70 (.call 74 [(.t 69)]), O 71 (.bin .and (.t 70) (U 1)), O 72 (.bin .neq (.t 71) (U 0))])
def g46.c27 : IC := (.ops [O 73 (.mv (.t 5)), O 74 (.call 71 [(.t 73), (I 2147483647)]), O 75 (.fieldA 1 (.t 10)), OZ (.store 1 (.t 75) (.t 74))])
def g46.c28 : IC := (.cond (.t 72) g46.c27 .skip)
def g46.c29 : IC := (.seq g46.c26 g46.c28)
def g46.c30 : IC := (.ops [O 76 (.fieldA 0 (.t 10)), O 77 (.load none (.t 76)), O 78 (.call 74 [(.t 77)]), O 79 (.bin .and (.t 78) (U 2)), O 80 (.bin .neq (.t 79) (U 0))])
def g46.c31 : IC := (.ops [O 81 (.mv (.t 5)), O 82 (.call 71 [(.t 81), (I 2147483647)]), O 83 (.fieldA 2 (.t 10)), OZ (.store 1 (.t 83) (.t 82))])
def g46.c32 : IC := (.cond (.t 80) g46.c31 .skip)
def g46.c33 : IC := (.seq g46.c30 g46.c32)
def g46.c34 : IC := (.ops [O 84 (.fieldA 2 (.t 7)), O 85 (.load none (.t 84)), O 86 (.load (some 3) (.t 10)), O 87 (.lit false 3 (.agg [(.int .u8 0), (.int .i64 0), (.int .i64 0)]) 1 [(0, (.t 86))]), O 88 (.app 3 24 (.t 85) (.t 87)), O 89 (.fieldA 2 (.t 7)), OZ (.store 1 (.t 89) (.t 88))])
def g46.c35 : IC := (.cut [0, 2, 5, 7, 9, 10] g46.c33 g46.c34)
def g46.c36 : IC := (.cut [0, 2, 5, 7, 9, 10] g46.c29 g46.c35)
def g46.c37 : IC := (.seq g46.c25 g46.c36)
def g46.c38 : IC := (.block 3 g46.c37)
def g46.c39 : IC := (.ops [O 63 (.mv (.t 9)), O 64 (.bin .sub (.t 63) (I 1)), O 9 (.mv (.t 64))])
def g46.c40 : IC := (.cut [0, 2, 5, 7, 9] g46.c38 g46.c39)
def g46.c41 : IC := (.cut [0, 2, 5, 7, 9] g46.c24 g46.c40)
def g46.c42 : IC := (.loop [0, 2, 5, 7, 9] g46.c41)
def g46.c43 : IC := (.block 2 g46.c42)
def g46.c44 : IC := (.seq g46.c22 g46.c43)
def g46.c45 : IC := (.ops [O 90 (.mv (.t 5)), O 91 (.nilck (.t 90)), O 92 (.fieldA 1 (.t 91)), O 93 (.load none (.t 92)), O 94 (.mv (.t 0)), O 95 (.len (.t 94)), O 96 (.bin .lss (.t 93) (.t 95))])
def g46.c46 : IC := (.ops [O 97 (.mv (.t 5)), O 98 (.mv (.t 5)), O 99 (.nilck (.t 98)), O 100 (.fieldA 1 (.t 99)), O 101 (.load none (.t 100)), O 102 (.call 75 [(.t 97), (I 210), (.t 101)])])
def g46.c47 : IC := (.cond (.t 96) g46.c46 .skip)
def g46.c48 : IC := (.seq g46.c45 g46.c47)
def g46.c49 : IC := (.ops [O 103 (.mv (.t 5)), O 104 (.nilck (.t 103)), O 105 (.fieldA 2 (.t 104)), O 106 (.load none (.t 105)), O 107 (.bin .neq (.t 106) (I 0))])
def g46.c50 : IC := (.eops [O 108 (.build [(.int .u8 0), .nils, .nils, (.int .i64 0)] []), O 109 (.mv (.t 5)), O 110 (.nilck (.t 109)), O 111 (.fieldA 3 (.t 110)), O 112 (.load none (.t 111)), O 113 (.mv (.t 5)), O 114 (.nilck (.t 113)), O 115 (.fieldA 2 (.t 114)), O 116 (.load none (.t 115)), OZ (.store 4 (.t 2) (.t 108)), O 3 (.mv (.t 112)), O 4 (.mv (.t 116))] [0, 0, 2, 6, 14, 0, 32, 96, 224, 1, 543, 2047])
def g46.c51 : IC := (.seq g46.c50 .ret)
def g46.c52 : IC := (.cond (.t 107) g46.c51 .skip)
def g46.c53 : IC := (.seq g46.c49 g46.c52)
def g46.c54 : IC := (.ops [O 117 (.load (some 4) (.t 7)), OZ (.store 4 (.t 2) (.t 117)), O 3 (.mv (I 0)), O 4 (.mv (I 0))])
def g46.c55 : IC := (.seq g46.c54 .ret)
def g46.c56 : IC := (.cut [2, 7] g46.c53 g46.c55)
def g46.c57 : IC := (.cut [2, 5, 7] g46.c48 g46.c56)
def g46.c58 : IC := (.cut [0, 2, 5, 7] g46.c44 g46.c57)
def g46.c59 : IC := (.cut [0, 2, 5, 7] g46.c21 g46.c58)
def g46.c60 : IC := (.seq g46.c10 g46.c59)
def g46.c61 : IC := (.seq g46.c9 g46.c60)
def g46.c62 : IC := (.seq (.ops [O 7 (.alloc [(.int .u8 0), .nils, .nils, (.int .i64 0)])]) g46.c61)
def g46.c63 : IC := (.seq g46.c8 g46.c62)
def g46.c64 : IC := (.seq g46.c7 g46.c63)
def g46.c65 : IC := (.seq (.ops [O 6 (.mv (.v (.p (.fn (.func 67)))))]) g46.c64)
def g46.c66 : IC := (.seq g46.c6 g46.c65)
def g46.c67 : IC := (.cut [0, 2] g46.c5 g46.c66)
def g46.c68 : IC := (.seq g46.c0 g46.c67)
def g46 : IF := ⟨1, 118, [.cell 2 (some 4), .tmp 3, .tmp 4], g46.c68⟩
theorem g46_ok : compF Try.prog [48] 46 = some g46.bare := by kernel_rfl
end Go.Proofs.Ythmlninecfjjgaa.AD

namespace Go.Proofs.Ythmlninecfjjgaa.AD
open Go.Proofs
set_option linter.unusedVariables false
set_option linter.unusedSimpArgs false
set_option maxRecDepth 100000

/-- A reader in good order. -/
def sos (B : List PV) (p : Int) : List Ob := [.cells [.p (.list 1 B), .p (.int .i64 p), .p (.int .i64 0), .p (.int .i64 0)]]

theorem octet_pure (g : Nat) (c : Int) (B : List PV) (p : Nat) (hen : enters Try.prog g = true) (h : pureF Try.prog g [.p (.int .u8 c)] (.p (.bool true))) (hB : B[p]? = some (.int .u8 c)) (hl : B.length ≤ 1099511627776) :
    Meth Try.prog 69 [.ref (.b 0) 0, .p (.fn (.func g))] (sos B p) (.int .u8 c) (sos B ((p : Int) + 1)) := by
  refine Meth.of f69_ok fun rest => ?_
  have hlt := (List.getElem?_eq_some_iff.1 hB).1
  (conv => whnf)
  refine splitB_f rfl ?_
  (conv => whnf)
  refine splitB_f (beq_eq_false_iff_ne.2 (by omega)) ?_
  (conv => whnf)
  refine ⟨rfl, _, ⟨by omega, hB⟩, ?_⟩
  (conv => whnf)
  refine ⟨hen, ?_⟩
  (conv => whnf)
  refine CallD.pureF h rfl ?_
  (conv => whnf)
  refine splitB_f rfl ?_
  (conv => whnf)
  rw [IntWalk.i64_in ((p : Int) + 1) (by omega), IntWalk.i64_in ((p : Int) + 1 - 1) (by omega)]
  refine ⟨rfl, _, ⟨by omega, by rw [show ((p : Int) + 1 - 1).toNat = p by omega]; exact hB⟩, ?_⟩
  (conv => whnf)
  exact ⟨rfl, rfl⟩


theorem is_spec (c : Int) (o : Ob) (rest : List Ob) : callA Try.prog 68 [.p (.int .u8 c), .ref (.b 1) 0] (o :: .cells [.p (.int .u8 c)] :: rest) fun r H' => r = .p (.bool true) ∧ H' = o :: .cells [.p (.int .u8 c)] :: rest := by
  refine sound f68_ok ?_
  (conv => whnf)
  exact ⟨by simp, rfl⟩

theorem octet_is (c : Int) (B : List PV) (p : Nat) (hB : B[p]? = some (.int .u8 c)) (hl : B.length ≤ 1099511627776) :
    Meth Try.prog 69 [.ref (.b 0) 0, .clos (.func 68) [] [.ref (.b 1) 0]] (sos B p ++ [.cells [.p (.int .u8 c)]]) (.int .u8 c) (sos B ((p : Int) + 1) ++ [.cells [.p (.int .u8 c)]]) := by
  refine Meth.of f69_ok fun rest => ?_
  have hlt := (List.getElem?_eq_some_iff.1 hB).1
  (conv => whnf)
  refine splitB_f rfl ?_
  (conv => whnf)
  refine splitB_f (beq_eq_false_iff_ne.2 (by omega)) ?_
  (conv => whnf)
  refine ⟨rfl, _, ⟨by omega, hB⟩, ?_⟩
  (conv => whnf)
  refine ⟨by kernel_rfl, ?_⟩
  (conv => whnf)
  refine CallD.mk ⟨.bool true, fun X => is_spec c _ _, ?_⟩
  (conv => whnf)
  refine splitB_f rfl ?_
  (conv => whnf)
  rw [IntWalk.i64_in ((p : Int) + 1) (by omega), IntWalk.i64_in ((p : Int) + 1 - 1) (by omega)]
  refine ⟨rfl, _, ⟨by omega, by rw [show ((p : Int) + 1 - 1).toNat = p by omega]; exact hB⟩, ?_⟩
  (conv => whnf)
  exact ⟨rfl, rfl⟩

theorem true_spec (c : Int) : pureF Try.prog 97 [.p (.int .u8 c)] (.p (.bool true)) := by
  refine pureF_of f97_ok fun H => ?_
  (conv => whnf)
  exact ⟨rfl, rfl⟩
theorem isKind_spec (c : Int) (h : c = 1 ∨ c = 2) : pureF Try.prog 70 [.p (.int .u8 c)] (.p (.bool true)) := by
  refine pureF_of f70_ok fun H => ?_
  rcases h with rfl | rfl
  all_goals
    repeat' ((conv => whnf); first | refine splitB_t rfl ?_ | refine splitB_f rfl ?_)
    (conv => whnf)
    exact ⟨rfl, rfl⟩
theorem isOp_spec (c : Int) (h : 1 ≤ c ∧ c ≤ 38) : pureF Try.prog 73 [.p (.int .u8 c)] (.p (.bool true)) := by
  refine pureF_of f73_ok fun H => ?_
  (conv => whnf)
  refine splitB_t (decide_eq_true (by omega)) ?_
  (conv => whnf)
  exact ⟨by rw [show decide (c ≤ 38) = true from decide_eq_true (by omega)], rfl⟩

/-! ### numbers -/
theorem bytes_and (x : Fin 256) : IntKind.u8.wrap (BitVec.ofInt 8 (IntKind.u8.wrap (BitVec.ofInt 8 (x.val : Int) ||| BitVec.ofInt 8 128).toNat) &&& BitVec.ofInt 8 127).toNat = (x.val : Int) % 128 ∧ 128 ≤ IntKind.u8.wrap (BitVec.ofInt 8 (x.val : Int) ||| BitVec.ofInt 8 128).toNat := by
  revert x; decide
theorem bytes_low (x : Fin 256) (h : x.val < 128) : IntKind.u8.wrap (BitVec.ofInt 8 (x.val : Int) &&& BitVec.ofInt 8 127).toNat = (x.val : Int) := by
  revert x; decide
theorem wrap8 (u : Int) : IntKind.u8.wrap u = u % 256 := by simp [IntKind.wrap, IntKind.bits, IntKind.signed]
def contN (u : Int) : Int := IntKind.u8.wrap (BitVec.ofInt 8 (IntKind.u8.wrap u) ||| BitVec.ofInt 8 128).toNat
theorem contN_and (u : Int) : IntKind.u8.wrap (BitVec.ofInt IntKind.u8.bits (contN u) &&& BitVec.ofInt IntKind.u8.bits 127).toNat = u % 128 ∧ 128 ≤ contN u := by
  have h := bytes_and ⟨(u % 256).toNat, by omega⟩
  have e : (((⟨(u % 256).toNat, by omega⟩ : Fin 256).val : Nat) : Int) = u % 256 := by simp; omega
  rw [e] at h
  unfold contN
  rw [wrap8 u]
  refine ⟨?_, h.2⟩
  rw [show u % 128 = u % 256 % 128 by omega]
  exact h.1
theorem low_and (u : Int) (h : 0 ≤ u ∧ u < 128) : IntKind.u8.wrap (BitVec.ofInt IntKind.u8.bits u &&& BitVec.ofInt IntKind.u8.bits 127).toNat = u := by
  have h2 := bytes_low ⟨u.toNat, by omega⟩ (by simp; omega)
  have e : (((⟨u.toNat, by omega⟩ : Fin 256).val : Nat) : Int) = u := by simp; omega
  rw [e] at h2
  exact h2
theorem wrap64u (n : Int) (h : 0 ≤ n ∧ n ≤ 9223372036854775807) : IntKind.u64.wrap n = n := by
  have : IntKind.u64.wrap n = n % 18446744073709551616 := by simp [IntKind.wrap, IntKind.bits, IntKind.signed]
  rw [this]; omega
/-- Seven bits more. -/
theorem or_add (a d : Int) (k : Nat) (ha : 0 ≤ a) (ha2 : a < 128 ^ k) (hd : 0 ≤ d) (hd2 : d < 128) (hk : k ≤ 4) :
    IntKind.u64.wrap (BitVec.ofInt IntKind.u64.bits a ||| BitVec.ofInt IntKind.u64.bits (IntKind.u64.wrap (IntKind.u64.wrap d * 2 ^ (min (Int.toNat (7 * k)) IntKind.u64.bits)))).toNat = a + d * 128 ^ k := by
  obtain ⟨x, rfl⟩ := Int.eq_ofNat_of_zero_le ha
  obtain ⟨y, rfl⟩ := Int.eq_ofNat_of_zero_le hd
  have e1 : Int.toNat (7 * (k : Int)) = 7 * k := by omega
  have e2 : min (7 * k) IntKind.u64.bits = 7 * k := by simp [IntKind.bits]; omega
  have e3 : (128 : Nat) ^ k = 2 ^ (7 * k) := by rw [Nat.pow_mul]
  have h7 : (2 : Nat) ^ (7 * k) ≤ 2 ^ 28 := Nat.pow_le_pow_right (by decide) (by omega)
  have hx : x < 2 ^ (7 * k) := by rw [← e3]; exact_mod_cast ha2
  have hy : y * 2 ^ (7 * k) ≤ 128 * 2 ^ 28 := Nat.mul_le_mul (by omega) h7
  have e4 : ((y : Int) * 2 ^ (7 * k)) = ((y * 2 ^ (7 * k) : Nat) : Int) := by push_cast; rfl
  have e5 : ((x : Int) + y * 128 ^ k) = ((x + y * 2 ^ (7 * k) : Nat) : Int) := by rw [← e3]; push_cast; rfl
  rw [e1, e2, wrap64u (y : Int) (by omega), e4, wrap64u ((y * 2 ^ (7 * k) : Nat) : Int) (by omega), e5]
  have e6 : (BitVec.ofInt IntKind.u64.bits (x : Int) ||| BitVec.ofInt IntKind.u64.bits ((y * 2 ^ (7 * k) : Nat) : Int)).toNat = x + y * 2 ^ (7 * k) := by
    rw [BitVec.toNat_or]
    simp only [BitVec.ofInt_natCast, BitVec.toNat_ofNat, IntKind.bits]
    rw [Nat.mod_eq_of_lt (by omega), Nat.mod_eq_of_lt (by omega), Nat.or_comm, Nat.mul_comm y, ← Nat.two_pow_add_eq_or_of_lt hx, Nat.add_comm]
  rw [e6]
  exact wrap64u _ (by omega)


theorem numP_one (f : Nat) (u : Int) (h : 0 ≤ u ∧ u < 128) : numP f u = [.int .u8 u] := by
  have e : IntKind.u8.wrap u = u := by rw [wrap8]; omega
  cases f with
  | zero => simp only [numP, e]
  | succ f => simp only [numP, e]; rw [if_neg (by omega)]
theorem numP_more (f : Nat) (u : Int) (h : 128 ≤ u) : numP (f + 1) u = .int .u8 (contN u) :: numP f (u / 128) := by
  simp only [numP]; rw [if_pos h]; rfl
theorem get_drop {α : Type} {l r : List α} {p : Nat} {a : α} (h : l.drop p = a :: r) : l[p]? = some a ∧ l.drop (p + 1) = r := by
  obtain ⟨h1, h2, _⟩ := drop_cons h
  exact ⟨h1, h2⟩
theorem nil_len {B Y : List PV} {p : Nat} {a : PV} (h : B.drop p = a :: Y) : p + 1 + Y.length = B.length := by
  have := congrArg List.length h
  simp at this
  omega

theorem step_arith (a u : Int) (k : Nat) (hk : k ≤ 3) (h1 : 0 ≤ a) (h2 : a < 128 ^ k) (h3 : 0 ≤ u) : 0 ≤ a + u % 128 * 128 ^ k ∧ a + u % 128 * 128 ^ k < 128 ^ (k + 1) ∧ a + u % 128 * 128 ^ k + u / 128 * 128 ^ (k + 1) = a + u * 128 ^ k := by
  have hk' : k = 0 ∨ k = 1 ∨ k = 2 ∨ k = 3 := by omega
  rcases hk' with rfl | rfl | rfl | rfl <;> simp only [Nat.reduceAdd] <;> omega

theorem number_at (n most : Int) (B Y : List PV) (p : Nat) (h0 : 0 ≤ n) (h1 : n ≤ most) (h2 : most ≤ 2147483647) (hB : B.drop p = numP 5 n ++ Y) (hl : B.length ≤ 1099511627776) :
    Meth Try.prog 71 [.ref (.b 0) 0, .p (.int .i64 most)] (sos B p) (.int .i64 n) (sos B ((p : Int) + (numP 5 n).length)) := by
  refine Meth.of f71_ok fun rest => ?_
  (conv => whnf)
  intro R hR
  have key : ∀ (f k : Nat) (u a : Int) (q : Nat), f + k = 5 → 0 ≤ u → (k = 0 ∨ 1 ≤ u) → 0 ≤ a → a < 128 ^ k → a + u * 128 ^ k = n → B.drop q = numP f u ++ Y → q + (numP f u).length = p + (numP 5 n).length →
      R [(0, .ref (.b 0) 0), (1, .p (.int .i64 most)), (5, .p (.int .i64 p)), (6, .p (.int .u64 a)), (7, .p (.int .i64 (7 * k)))] (sos B q ++ rest) [] := by
    intro f
    induction f with
    | zero =>
      intro k u a q g1 g2 g3 g4 g5 g6 g7 g8
      exfalso
      have : k = 5 := by omega
      subst this
      omega
    | succ f ih =>
      intro k u a q g1 g2 g3 g4 g5 g6 g7 g8
      have hk : k ≤ 4 := by omega
      by_cases hu : 128 ≤ u
      · rw [numP_more f u hu] at g7 g8
        obtain ⟨hc, hd⟩ := get_drop g7
        obtain ⟨n1, n2⟩ := contN_and u
        have ho := or_add a (u % 128) k g4 g5 (by omega) (by omega) hk
        have hk3 : k ≠ 4 := by intro e; subst e; omega
        refine hR _ _ _ ?_
        (conv => whnf)
        refine splitB_t rfl ?_
        (conv => whnf)
        refine CallVC.same (octet_pure _ _ B q (by kernel_rfl) (true_spec _) hc hl) rfl rfl rfl ?_
        (conv => whnf)
        refine splitB_f rfl ?_
        (conv => whnf)
        rw [n1]
        refine ⟨by omega, ?_⟩
        (conv => whnf)
        rw [ho]
        refine splitB_f (decide_eq_false (by omega)) ?_
        (conv => whnf)
        refine splitB_f (beq_eq_false_iff_ne.2 (by omega)) ?_
        (conv => whnf)
        rw [IntWalk.i64_in _ (by omega)]
        obtain ⟨s1, s2, s3⟩ := step_arith a u k (by omega) g4 g5 g2
        have q2 := ih (k + 1) (u / 128) (a + u % 128 * 128 ^ k) (q + 1) (by omega) (by omega) (.inr (by omega)) s1 s2 (by omega) hd (by simp at g8; omega)
        rw [show 7 * ((k + 1 : Nat) : Int) = 7 * (k : Int) + 7 by omega] at q2
        exact q2
      · have hu : 0 ≤ u ∧ u < 128 := by omega
        rw [numP_one (f + 1) u hu] at g7 g8
        obtain ⟨hc, hd⟩ := get_drop g7
        have n1 := low_and u hu
        have ho := or_add a u k g4 g5 (by omega) (by omega) hk
        rw [g6] at ho
        refine hR _ _ _ ?_
        (conv => whnf)
        refine splitB_t rfl ?_
        (conv => whnf)
        refine CallVC.same (octet_pure _ _ B q (by kernel_rfl) (true_spec _) hc hl) rfl rfl rfl ?_
        (conv => whnf)
        refine splitB_f rfl ?_
        (conv => whnf)
        rw [n1]
        refine ⟨by omega, ?_⟩
        (conv => whnf)
        rw [ho]
        refine splitB_t (decide_eq_true (by omega)) ?_
        (conv => whnf)
        refine splitB_f (decide_eq_false (by omega)) ?_
        have e1 : IntKind.u64.wrap most = most := wrap64u most (by omega)
        have e2 : (q : Int) + 1 = (p : Int) + (numP 5 n).length := by simp at g8; omega
        rcases g3 with rfl | g3
        · repeat' ((conv => whnf); first | refine splitB_t rfl ?_ | refine splitB_f rfl ?_ | refine splitB_f (decide_eq_false (by omega)) ?_ | done)
          (conv => whnf)
          rw [IntWalk.i64_in n (by omega), e2]
          exact ⟨rfl, rfl⟩
        · have hk1 : k = 0 ∨ 1 ≤ k := by omega
          rcases hk1 with rfl | hk1
          · repeat' ((conv => whnf); first | refine splitB_t rfl ?_ | refine splitB_f rfl ?_ | refine splitB_f (decide_eq_false (by omega)) ?_ | done)
            (conv => whnf)
            rw [IntWalk.i64_in n (by omega), e2]
            exact ⟨rfl, rfl⟩
          · (conv => whnf)
            refine splitB_t (decide_eq_true (by omega)) ?_
            repeat' ((conv => whnf); first | refine splitB_t rfl ?_ | refine splitB_f rfl ?_ | refine splitB_f (beq_eq_false_iff_ne.2 (by omega)) ?_ | refine splitB_f (decide_eq_false (by omega)) ?_ | done)
            (conv => whnf)
            rw [IntWalk.i64_in n (by omega), e2]
            exact ⟨rfl, rfl⟩
  have hpow : n < (128 : Int) ^ (5 + 1) := by
    have : (128 : Int) ^ (5 + 1) = 4398046511104 := by decide
    omega
  exact key 5 0 n 0 p rfl h0 (.inl rfl) (by omega) (by simp) (by simp) hB rfl

/-- A text. -/
theorem intBytes_ints (t : ByteArray) : intBytes (byteInts t) = some t.data.toList := by
  unfold byteInts
  induction t.data.toList with
  | nil => rfl
  | cons a r ih =>
    simp only [List.map_cons, intBytes, ih, Option.map_some]
    simp
theorem ba_eta (t : ByteArray) : (⟨t.data.toList.toArray⟩ : ByteArray) = t := by cases t; simp
theorem byteInts_len (t : ByteArray) : (byteInts t).length = t.size := by rw [byteInts, List.length_map, ba_size]

theorem text_at (t : ByteArray) (B Y : List PV) (p : Nat) (hB : B.drop p = numP 5 t.size ++ (byteInts t ++ Y)) (hl : B.length ≤ 1048576) :
    Meth Try.prog 72 [.ref (.b 0) 0] (sos B p) (.str t) (sos B ((p : Int) + (numP 5 t.size).length + t.size)) := by
  refine Meth.of f72_ok fun rest => ?_
  have hlen := congrArg List.length hB
  simp only [List.length_append, List.length_drop, byteInts_len] at hlen
  have hr := szN_range 5 t.size
  have hn := numP_len 5 t.size
  (conv => whnf)
  refine CallVC.same (number_at t.size 2147483647 B (byteInts t ++ Y) p (by omega) (by omega) (by omega) hB (by omega)) rfl rfl rfl ?_
  (conv => whnf)
  rw [IntWalk.i64_in _ (by omega)]
  refine splitB_f (decide_eq_false (by omega)) ?_
  (conv => whnf)
  refine splitB_f rfl ?_
  (conv => whnf)
  rw [IntWalk.i64_in ((p : Int) + (numP 5 t.size).length + t.size) (by omega), IntWalk.i64_in ((p : Int) + (numP 5 t.size).length + t.size - t.size) (by omega)]
  refine ⟨rfl, ?_⟩
  (conv => whnf)
  refine ⟨by omega, ?_⟩
  (conv => whnf)
  have hc : (B.take ((p : Int) + (numP 5 t.size).length + t.size).toNat).drop ((p : Int) + (numP 5 t.size).length + t.size - t.size).toNat = byteInts t := by
    rw [show ((p : Int) + (numP 5 t.size).length + t.size).toNat = p + ((numP 5 t.size).length + t.size) by omega, show ((p : Int) + (numP 5 t.size).length + t.size - t.size).toNat = p + (numP 5 t.size).length by omega]
    rw [← List.drop_drop, List.drop_take, hB]
    rw [show p + ((numP 5 t.size).length + t.size) - p = (numP 5 t.size).length + t.size by omega]
    rw [List.take_length_add_append, List.drop_left, List.take_left' (byteInts_len t)]
  rw [hc]
  refine ⟨rfl, _, intBytes_ints t, ?_⟩
  (conv => whnf)
  rw [ba_eta]
  exact ⟨rfl, rfl⟩

end Go.Proofs.Ythmlninecfjjgaa.AD
