/- Chapter 22: the law CompileLics of the code. -/
import Derived.Test.YthmlninecfjjgaaL9
namespace Go.Proofs.Ythmlninecfjjgaa.AD
open Go.Proofs
set_option linter.unusedVariables false
set_option linter.unusedSimpArgs false
set_option maxRecDepth 100000

/-- The program that is put together, and the document's. -/
def b0 : Bs := ⟨[], [], 0, 0⟩
def w0 : Ws := ⟨[], [], 0, 0, false⟩
def finB (e : Li) : Bs := putB ⟨38, 0, 0⟩ (licB e b0)
def finW (e : Li) : Ws := putW ⟨38, 0, 0⟩ (licW e w0)

theorem works_spec : pureF Try.prog 9 [] (.p (.bool true)) := by
  refine pureF_nil_of (ps := []) f9_ok (.bool _) ?_
  have hfit : FitsL (.mk 1 ⟨#[97]⟩ 0 []) := .mk _ _ _ _ (by decide) (by decide) (by decide) (by decide) (by decide) fun a ha => by cases ha
  have hck := licsCheck_spec (.mk 1 ⟨#[97]⟩ 0 []) hfit
  have hle : PV.le (.agg [.int .u8 1, .str ⟨#[97]⟩, .int .i64 0, .nils]) (encL (.mk 1 ⟨#[97]⟩ 0 [])) := .agg (.cons _ _ _ _ (.refl _) (.cons _ _ _ _ (.refl _) (.cons _ _ _ _ (.refl _) (.cons _ _ _ _ (.nils 4) .nil))))
  have hlic := (lic_spec 2 (.mk 1 ⟨#[97]⟩ 0 []) b0 hfit (by simp [b0, lcnt, lcnts])).args (.same _ _ _ (.p _ _ _ _ hle .nil))
  have hfin : finB (.mk 1 ⟨#[97]⟩ 0 []) = ⟨[⟨#[97]⟩], [⟨34, 0, 0⟩, ⟨38, 0, 0⟩], 1, 0⟩ := rfl
  have hcc := codeCheck_spec 2 (finB (.mk 1 ⟨#[97]⟩ 0 [])).T (finB (.mk 1 ⟨#[97]⟩ 0 [])).C (finB (.mk 1 ⟨#[97]⟩ 0 [])).S (by rw [hfin]; simp) (by rw [hfin]; simp)
  have herr : errP 2 (finB (.mk 1 ⟨#[97]⟩ 0 [])).T (finB (.mk 1 ⟨#[97]⟩ 0 [])).C (finB (.mk 1 ⟨#[97]⟩ 0 [])).S = 0 := by rw [hfin]; decide
  rw [herr] at hcc
  have hsame := SameProgram_spec 2 (finB (.mk 1 ⟨#[97]⟩ 0 [])).T (finB (.mk 1 ⟨#[97]⟩ 0 [])).C (finB (.mk 1 ⟨#[97]⟩ 0 [])).S (by rw [hfin]; simp) (by rw [hfin]; simp)
  (conv => whnf)
  refine CallVC.inline f12_ok ?_
  (conv => whnf)
  refine CallVC.pureF (hck.args (.p _ _ _ _ hle .nil)) rfl ?_
  (conv => whnf)
  refine splitB_f rfl ?_
  (conv => whnf)
  refine CallVC.inline f30_ok ?_
  (conv => whnf)
  refine CallVC.ghost 3 1 1 rfl rfl ?_
  refine CallVC.ghost 3 2 3 rfl rfl ?_
  refine CallVC.methM' [3, 4, 5, 2, 0, 1] 6 [.cells [.p (.int .u8 1), .p (.str ⟨#[97]⟩), .p (.int .i64 0), .p .nils], .cells [.p (.int .u8 0), .p .nils, .p .nils, .p (.int .i64 0)], .map (mP 0 (licB (.mk 1 ⟨#[97]⟩ 0 []) b0).T), .cells [.p (.int .u8 2), .view (.l 4) (licB (.mk 1 ⟨#[97]⟩ 0 []) b0).T.length 1 (licB (.mk 1 ⟨#[97]⟩ 0 []) b0).T.length, .view (.l 5) (licB (.mk 1 ⟨#[97]⟩ 0 []) b0).C.length 3 (licB (.mk 1 ⟨#[97]⟩ 0 []) b0).C.length, .p (.int .i64 (licB (.mk 1 ⟨#[97]⟩ 0 []) b0).S), .mapr (.l 2), .p (.int .i64 (licB (.mk 1 ⟨#[97]⟩ 0 []) b0).h)], .buf (licB (.mk 1 ⟨#[97]⟩ 0 []) b0).T.length 1 (tP (licB (.mk 1 ⟨#[97]⟩ 0 []) b0).T), .buf (licB (.mk 1 ⟨#[97]⟩ 0 []) b0).C.length 3 (cP (licB (.mk 1 ⟨#[97]⟩ 0 []) b0).C)] hlic rfl rfl rfl rfl rfl (by decide) (by decide) rfl ?_
  (conv => whnf)
  refine CallVC.methM' [3, 4, 5, 2, 0, 1] 6 [.cells [.p (.int .u8 1), .p (.str ⟨#[97]⟩), .p (.int .i64 0), .p .nils], .cells [.p (.int .u8 0), .p .nils, .p .nils, .p (.int .i64 0)], .map (mP 0 (finB (.mk 1 ⟨#[97]⟩ 0 [])).T), .cells [.p (.int .u8 2), .view (.l 4) (finB (.mk 1 ⟨#[97]⟩ 0 [])).T.length 1 (finB (.mk 1 ⟨#[97]⟩ 0 [])).T.length, .view (.l 5) (finB (.mk 1 ⟨#[97]⟩ 0 [])).C.length 3 (finB (.mk 1 ⟨#[97]⟩ 0 [])).C.length, .p (.int .i64 (finB (.mk 1 ⟨#[97]⟩ 0 [])).S), .mapr (.l 2), .p (.int .i64 (finB (.mk 1 ⟨#[97]⟩ 0 [])).h)], .buf (finB (.mk 1 ⟨#[97]⟩ 0 [])).T.length 1 (tP (finB (.mk 1 ⟨#[97]⟩ 0 [])).T), .buf (finB (.mk 1 ⟨#[97]⟩ 0 [])).C.length 3 (cP (finB (.mk 1 ⟨#[97]⟩ 0 [])).C)] (op_spec 2 (licB (.mk 1 ⟨#[97]⟩ 0 []) b0) 38) rfl rfl rfl rfl rfl (by decide) (by decide) rfl ?_
  (conv => whnf)
  refine CallVC.inline f33_ok ?_
  (conv => whnf)
  refine CallVC.lend (ps := [encPg 2 (finB (.mk 1 ⟨#[97]⟩ 0 [])).T (finB (.mk 1 ⟨#[97]⟩ 0 [])).C (finB (.mk 1 ⟨#[97]⟩ 0 [])).S]) hcc (.int _ _) (.cons _ _ _ _ (.agg _ _ rfl fun j c p hc hp => ?_) .nil) ?_
  · match j, hc, hp with
    | 0, hc, hp => cases hc; cases hp; exact .p _
    | 1, hc, hp => cases hc; cases hp; exact Lend.all _ _ _ _ rfl (tP_len _).symm
    | 2, hc, hp => cases hc; cases hp; exact Lend.all _ _ _ _ rfl (cP_len _).symm
    | 3, hc, hp => cases hc; cases hp; exact .p _
  (conv => whnf)
  repeat' ((conv => whnf); first | refine splitB_t rfl ?_ | refine splitB_f rfl ?_)
  (conv => whnf)
  refine CallVC.lend (ps := [encPg 2 (finB (.mk 1 ⟨#[97]⟩ 0 [])).T (finB (.mk 1 ⟨#[97]⟩ 0 [])).C (finB (.mk 1 ⟨#[97]⟩ 0 [])).S, encPg 2 (finB (.mk 1 ⟨#[97]⟩ 0 [])).T (finB (.mk 1 ⟨#[97]⟩ 0 [])).C (finB (.mk 1 ⟨#[97]⟩ 0 [])).S]) hsame (.bool _) (.cons _ _ _ _ (.agg _ _ rfl fun j c p hc hp => ?_) (.cons _ _ _ _ (.p _) .nil)) ?_
  · match j, hc, hp with
    | 0, hc, hp => cases hc; cases hp; exact .p _
    | 1, hc, hp => cases hc; cases hp; exact Lend.all _ _ _ _ rfl (tP_len _).symm
    | 2, hc, hp => cases hc; cases hp; exact Lend.all _ _ _ _ rfl (cP_len _).symm
    | 3, hc, hp => cases hc; cases hp; exact .p _
  (conv => whnf)
  repeat' ((conv => whnf); first | refine splitB_t rfl ?_ | refine splitB_f rfl ?_)
  exact ⟨rfl, rfl⟩

theorem namedW_texts (o : Int) (s : ByteArray) (hs : s.size ≤ 20000) (w : Ws) (h : ∀ t, t ∈ w.T → t.size ≤ 20000) : ∀ t, t ∈ (namedW o s w).T → t.size ≤ 20000 := by
  rw [namedW]
  split
  · exact h
  · split
    · rw [putW_T]; exact h
    · split
      · exact h
      · rw [putW_T]
        intro t ht
        simp only [List.mem_append, List.mem_singleton] at ht
        rcases ht with ht | rfl
        · exact h t ht
        · exact hs
theorem licW_texts (e : Li) : FewL e → ∀ w : Ws, (∀ t, t ∈ w.T → t.size ≤ 20000) → ∀ t, t ∈ (licW e w).T → t.size ≤ 20000 := by
  induction e using Li.ind with
  | h o t k xs ih =>
    intro hf w h
    cases hf with
    | mk _ _ _ _ ht hx hxs =>
    have main : ∀ l : List Li, (∀ a, a ∈ l → a ∈ xs) → ∀ w : Ws, (∀ t, t ∈ w.T → t.size ≤ 20000) → ∀ t, t ∈ (licsW l w).T → t.size ≤ 20000 := by
      intro l
      induction l with
      | nil => intro _ w h; exact h
      | cons a r ihr =>
        intro hl w h
        simp only [licsW]
        split
        · exact h
        · exact ihr (fun c hc => hl c (by simp [hc])) _ (ih a (hl a (by simp)) (hxs a (hl a (by simp))) w h)
    have h1 := main xs (fun _ h => h) w h
    simp only [licW]
    (repeat' split) <;> first | exact namedW_texts _ _ ht w h | (rw [putW_T]; exact h1) | exact h1

theorem putB_C (x : Ins) (b : Bs) (h : b.C.length ≤ 32769) : (putB x b).C.length ≤ 32769 := by
  simp only [putB]
  split
  · simp; omega
  · exact h
theorem namedB_C (o : Int) (s : ByteArray) (b : Bs) (h : b.C.length ≤ 32769) : (namedB o s b).C.length ≤ 32769 := by
  rw [namedB]
  split <;> exact putB_C _ _ h
theorem licB_C : (∀ e b, b.C.length ≤ 32769 → (licB e b).C.length ≤ 32769) ∧ ∀ l b, b.C.length ≤ 32769 → (licsB l b).C.length ≤ 32769 := by
  have main : ∀ l : List Li, (∀ a, a ∈ l → ∀ b, b.C.length ≤ 32769 → (licB a b).C.length ≤ 32769) → ∀ b, b.C.length ≤ 32769 → (licsB l b).C.length ≤ 32769 := by
    intro l
    induction l with
    | nil => intro _ b h; exact h
    | cons a r ih => intro h b hb; exact ih (fun c hc => h c (by simp [hc])) _ (h a (by simp) b hb)
  have one : ∀ e b, b.C.length ≤ 32769 → (licB e b).C.length ≤ 32769 := by
    intro e
    induction e using Li.ind with
    | h o t k xs ih =>
      intro b hb
      have h1 := main xs ih b hb
      simp only [licB]
      (repeat' split) <;> first | exact namedB_C _ _ _ hb | exact putB_C _ _ h1
  exact ⟨one, fun l => main l fun a _ => one a⟩

theorem nil_same : pureF Try.prog 13 [.p (.agg [.int .u8 0, .nils, .nils, .int .i64 0]), .p (.agg [.int .u8 0, .nils, .nils, .int .i64 0])] (.p (.bool true)) := by
  have h := SameProgram_spec 0 [] [] 0 (by simp) (by simp)
  have hle : PV.le (.agg [.int .u8 0, .nils, .nils, .int .i64 0]) (encPg 0 [] [] 0) := .agg (.cons _ _ _ _ (.refl _) (.cons _ _ _ _ (.nils 1) (.cons _ _ _ _ (.nils 3) (.cons _ _ _ _ (.refl _) .nil))))
  exact h.args (.p _ _ _ _ hle (.p _ _ _ _ hle .nil))

set_option maxHeartbeats 8000000 in
theorem CompileLics_spec (e : Li) (hf : FitsL e) : pureF Try.prog 3 [.p (encL e)] (.p (.bool true)) := by
  refine pureF_nil_of (ps := [encL e]) f3_ok (.bool _) ?_
  have hlw := LicWeight_spec e hf 20000 (by omega) (by omega)
  have hw := works_spec
  have hck := licsCheck_spec e hf
  have hrck := refLicCheck_spec e hf
  have few := fewL_of e 20000 (by omega) (by omega)
  have hl := LentLic_spec e
  have hk := KeptLic_spec e
  have hle := encTL_le e
  have hckT := hck.args (.p _ _ _ _ hle .nil)
  have hsim := sim_lic e
  obtain ⟨o, t, k, xs⟩ := e
  (conv => whnf)
  refine CallVC.pureF hlw rfl ?_
  (conv => whnf)
  refine splitB_dec (fun h => ?_) (fun h => ?_)
  · (conv => whnf)
    refine CallVC.pureF hw rfl ?_
    exact ⟨rfl, rfl⟩
  · obtain ⟨few1, few2⟩ := few (by omega)
    have hcnt : lcnt (.mk o t k xs) ≤ 20000 := by omega
    (conv => whnf)
    refine CallVC.pureF (hl few1) rfl ?_
    (conv => whnf)
    refine CallVC.inline f11_ok ?_
    (conv => whnf)
    refine CallVC.pureF hrck rfl ?_
    cases hchk : chkLi (.mk o t k xs) with
    | false =>
      rw [hchk] at hckT
      repeat' ((conv => whnf); first | refine CallVC.inline f12_ok ?_ | refine CallVC.inline f14_ok ?_ | (intro R hR; refine hR _ _ _ ?_) | refine CallVC.pureF hckT rfl ?_ | refine CallVC.pureF nil_same rfl ?_ | refine CallVC.pureF (hk few1) rfl ?_ | refine CallVC.pureF hw rfl ?_ | refine splitB_t rfl ?_ | refine splitB_f rfl ?_)
      exact ⟨rfl, rfl⟩
    | true =>
      rw [hchk] at hckT
      have hS := sim_put ⟨38, 0, 0⟩ (hsim hchk b0 w0 (.inl ⟨rfl, rfl, rfl, rfl, rfl⟩))
      have hS : Sim (finB (.mk o t k xs)) (finW (.mk o t k xs)) := hS
      have hlicT := (lic_spec 2 (.mk o t k xs) b0 hf (by simp [b0]; omega)).args (.same _ _ _ (.p _ _ _ _ hle .nil))
      have hrl := reflic_spec 2 (.mk o t k xs) w0 hf (by simp [w0]; omega)
      have hBT := licB_T.1 (.mk o t k xs) b0
      have hWT := licW_T.1 (.mk o t k xs) w0
      have hBT2 : (finB (.mk o t k xs)).T.length ≤ 1000000000 := by
        have : ((licB (.mk o t k xs) b0).T.length : Int) ≤ 20000 := by
          have h0 : (b0.T.length : Int) = 0 := rfl
          omega
        show (licB (.mk o t k xs) b0).T.length ≤ 1000000000
        omega
      have hcc := fun hC => codeCheck_spec 2 (finB (.mk o t k xs)).T (finB (.mk o t k xs)).C (finB (.mk o t k xs)).S hBT2 hC
      have hwts : ∀ t', t' ∈ (finW (.mk o t k xs)).T → t'.size ≤ 1000000000 := fun t' ht' => by
        have h1 : t' ∈ (licW (.mk o t k xs) w0).T := by rw [← putW_T ⟨38, 0, 0⟩]; exact ht'
        have := licW_texts (.mk o t k xs) few1 w0 (fun t ht => by cases ht) t' h1
        omega
      (conv => whnf)
      refine splitB_f rfl ?_
      (conv => whnf)
      refine CallVC.ghost 4 1 1 rfl rfl ?_
      refine CallVC.ghost 4 2 3 rfl rfl ?_
      refine CallVC.methM' [4, 5, 6, 0, 1, 2, 3] 7 [.cells [.p (.int .u8 o), .p (.str t), .p (.int .i64 k), .p (.list 4 (encLs xs))], .cells [.p (.int .u8 o), .p (.str t), .p (.int .i64 k), .p (.lent 4 (encTLs xs) [markL])], .cells [.p (.int .u8 o), .p (.str t), .p (.int .i64 k), .p (.list 4 (encLs xs))], .cells [.p (.int .u8 0), .p .nils, .p .nils, .p (.int .i64 0)], .cells [.p (.int .u8 2), .view (.l 5) (licW (.mk o t k xs) w0).T.length 1 (licW (.mk o t k xs) w0).T.length, .view (.l 6) (licW (.mk o t k xs) w0).C.length 3 (licW (.mk o t k xs) w0).C.length, .p (.int .i64 (licW (.mk o t k xs) w0).S), .p (.int .i64 (licW (.mk o t k xs) w0).h), .p (.bool (licW (.mk o t k xs) w0).o)], .buf (licW (.mk o t k xs) w0).T.length 1 (tP (licW (.mk o t k xs) w0).T), .buf (licW (.mk o t k xs) w0).C.length 3 (cP (licW (.mk o t k xs) w0).C)] hrl rfl rfl rfl rfl rfl (by decide) (by decide) rfl ?_
      (conv => whnf)
      refine CallVC.methM' [4, 5, 6, 0, 1, 2, 3] 7 [.cells [.p (.int .u8 o), .p (.str t), .p (.int .i64 k), .p (.list 4 (encLs xs))], .cells [.p (.int .u8 o), .p (.str t), .p (.int .i64 k), .p (.lent 4 (encTLs xs) [markL])], .cells [.p (.int .u8 o), .p (.str t), .p (.int .i64 k), .p (.list 4 (encLs xs))], .cells [.p (.int .u8 0), .p .nils, .p .nils, .p (.int .i64 0)], .cells [.p (.int .u8 2), .view (.l 5) (finW (.mk o t k xs)).T.length 1 (finW (.mk o t k xs)).T.length, .view (.l 6) (finW (.mk o t k xs)).C.length 3 (finW (.mk o t k xs)).C.length, .p (.int .i64 (finW (.mk o t k xs)).S), .p (.int .i64 (finW (.mk o t k xs)).h), .p (.bool (finW (.mk o t k xs)).o)], .buf (finW (.mk o t k xs)).T.length 1 (tP (finW (.mk o t k xs)).T), .buf (finW (.mk o t k xs)).C.length 3 (cP (finW (.mk o t k xs)).C)] (refput_spec 2 (licW (.mk o t k xs) w0) ⟨38, 0, 0⟩ (by decide) (by decide)) rfl rfl rfl rfl rfl (by decide) (by decide) rfl ?_
      (conv => whnf)
      refine CallVC.inline f29_ok ?_
      (conv => whnf)
      have hBC : (finB (.mk o t k xs)).C.length ≤ 32769 := putB_C _ _ ((licB_C.1 _ _ (by simp [b0])))
      have hcc := hcc (by omega)
      rcases hS with ⟨hov, eT, eC, eS, eh⟩ | ⟨hov, hbig⟩
      · have hrc := refCheck21_spec 2 (finW (.mk o t k xs)).T (finW (.mk o t k xs)).C (finW (.mk o t k xs)).S (by rw [← eT]; exact hBT2) (by rw [← eC]; omega) hwts
        have hsame := SameProgram_spec 2 (finW (.mk o t k xs)).T (finW (.mk o t k xs)).C (finW (.mk o t k xs)).S (by rw [← eT]; exact hBT2) (by rw [← eC]; omega)
        have hee : errP 2 (finB (.mk o t k xs)).T (finB (.mk o t k xs)).C (finB (.mk o t k xs)).S = errP 2 (finW (.mk o t k xs)).T (finW (.mk o t k xs)).C (finW (.mk o t k xs)).S := by rw [eT, eC, eS]
        rw [hee] at hcc
        generalize errP 2 (finW (.mk o t k xs)).T (finW (.mk o t k xs)).C (finW (.mk o t k xs)).S = er at hcc hrc
        refine splitB_f hov ?_
        (conv => whnf)
        refine CallVC.lend (ps := [encPg 2 (finW (.mk o t k xs)).T (finW (.mk o t k xs)).C (finW (.mk o t k xs)).S]) hrc (.int _ _) (.cons _ _ _ _ (.agg _ _ rfl fun j c p hc hp => ?_) .nil) ?_
        · match j, hc, hp with
          | 0, hc, hp => cases hc; cases hp; exact .p _
          | 1, hc, hp => cases hc; cases hp; exact Lend.all _ _ _ _ rfl (tP_len _).symm
          | 2, hc, hp => cases hc; cases hp; exact Lend.all _ _ _ _ rfl (cP_len _).symm
          | 3, hc, hp => cases hc; cases hp; exact .p _
        (conv => whnf)
        by_cases her : er = 3
        · subst her
          refine splitB_t rfl ?_
          repeat' ((conv => whnf); first | refine CallVC.pureF nil_same rfl ?_ | refine CallVC.pureF (hk few1) rfl ?_ | refine CallVC.pureF hw rfl ?_ | refine splitB_t rfl ?_ | refine splitB_f rfl ?_)
          (conv => whnf)
          refine CallVC.inline f12_ok ?_
          (conv => whnf)
          refine CallVC.pureF hckT rfl ?_
          (conv => whnf)
          refine splitB_f rfl ?_
          (conv => whnf)
          refine CallVC.inline f30_ok ?_
          (conv => whnf)
          refine CallVC.ghost 12 1 1 rfl rfl ?_
          refine CallVC.ghost 12 2 3 rfl rfl ?_
          refine CallVC.methM' [12, 13, 14, 11, 0, 1, 2, 3, 4, 5, 6, 7, 8, 9, 10] 15 [.cells [.p (.int .u8 o), .p (.str t), .p (.int .i64 k), .p (.list 4 (encLs xs))], .cells [.p (.int .u8 o), .p (.str t), .p (.int .i64 k), .p (.lent 4 (encTLs xs) [markL])], .cells [.p (.int .u8 o), .p (.str t), .p (.int .i64 k), .p (.list 4 (encLs xs))], .cells [.p (.int .u8 0), .p .nils, .p .nils, .p (.int .i64 0)], .cells [.p (.int .u8 2), .view (.l 5) (finW (.mk o t k xs)).T.length 1 (finW (.mk o t k xs)).T.length, .view (.l 6) (finW (.mk o t k xs)).C.length 3 (finW (.mk o t k xs)).C.length, .p (.int .i64 (finW (.mk o t k xs)).S), .p (.int .i64 (finW (.mk o t k xs)).h), .p (.bool (finW (.mk o t k xs)).o)], .buf (finW (.mk o t k xs)).T.length 1 (tP (finW (.mk o t k xs)).T), .buf (finW (.mk o t k xs)).C.length 3 (cP (finW (.mk o t k xs)).C), .cells [.p (.int .u8 0), .p .nils, .p .nils, .p (.int .i64 0)], .cells [.p (.int .u8 0), .p .nils, .p .nils, .p (.int .i64 0)], .cells [.p (.int .u8 o), .p (.str t), .p (.int .i64 k), .p (.lent 4 (encTLs xs) [markL])], .cells [.p (.int .u8 0), .p .nils, .p .nils, .p (.int .i64 0)], .map (mP 0 (licB (.mk o t k xs) b0).T), .cells [.p (.int .u8 2), .view (.l 13) (licB (.mk o t k xs) b0).T.length 1 (licB (.mk o t k xs) b0).T.length, .view (.l 14) (licB (.mk o t k xs) b0).C.length 3 (licB (.mk o t k xs) b0).C.length, .p (.int .i64 (licB (.mk o t k xs) b0).S), .mapr (.l 11), .p (.int .i64 (licB (.mk o t k xs) b0).h)], .buf (licB (.mk o t k xs) b0).T.length 1 (tP (licB (.mk o t k xs) b0).T), .buf (licB (.mk o t k xs) b0).C.length 3 (cP (licB (.mk o t k xs) b0).C)] hlicT rfl rfl rfl rfl rfl (by decide) (by decide) rfl ?_
          (conv => whnf)
          refine CallVC.methM' [12, 13, 14, 11, 0, 1, 2, 3, 4, 5, 6, 7, 8, 9, 10] 15 [.cells [.p (.int .u8 o), .p (.str t), .p (.int .i64 k), .p (.list 4 (encLs xs))], .cells [.p (.int .u8 o), .p (.str t), .p (.int .i64 k), .p (.lent 4 (encTLs xs) [markL])], .cells [.p (.int .u8 o), .p (.str t), .p (.int .i64 k), .p (.list 4 (encLs xs))], .cells [.p (.int .u8 0), .p .nils, .p .nils, .p (.int .i64 0)], .cells [.p (.int .u8 2), .view (.l 5) (finW (.mk o t k xs)).T.length 1 (finW (.mk o t k xs)).T.length, .view (.l 6) (finW (.mk o t k xs)).C.length 3 (finW (.mk o t k xs)).C.length, .p (.int .i64 (finW (.mk o t k xs)).S), .p (.int .i64 (finW (.mk o t k xs)).h), .p (.bool (finW (.mk o t k xs)).o)], .buf (finW (.mk o t k xs)).T.length 1 (tP (finW (.mk o t k xs)).T), .buf (finW (.mk o t k xs)).C.length 3 (cP (finW (.mk o t k xs)).C), .cells [.p (.int .u8 0), .p .nils, .p .nils, .p (.int .i64 0)], .cells [.p (.int .u8 0), .p .nils, .p .nils, .p (.int .i64 0)], .cells [.p (.int .u8 o), .p (.str t), .p (.int .i64 k), .p (.lent 4 (encTLs xs) [markL])], .cells [.p (.int .u8 0), .p .nils, .p .nils, .p (.int .i64 0)], .map (mP 0 (finB (.mk o t k xs)).T), .cells [.p (.int .u8 2), .view (.l 13) (finB (.mk o t k xs)).T.length 1 (finB (.mk o t k xs)).T.length, .view (.l 14) (finB (.mk o t k xs)).C.length 3 (finB (.mk o t k xs)).C.length, .p (.int .i64 (finB (.mk o t k xs)).S), .mapr (.l 11), .p (.int .i64 (finB (.mk o t k xs)).h)], .buf (finB (.mk o t k xs)).T.length 1 (tP (finB (.mk o t k xs)).T), .buf (finB (.mk o t k xs)).C.length 3 (cP (finB (.mk o t k xs)).C)] (op_spec 2 (licB (.mk o t k xs) b0) 38) rfl rfl rfl rfl rfl (by decide) (by decide) rfl ?_
          (conv => whnf)
          refine CallVC.inline f33_ok ?_
          (conv => whnf)
          refine CallVC.lend (ps := [encPg 2 (finB (.mk o t k xs)).T (finB (.mk o t k xs)).C (finB (.mk o t k xs)).S]) hcc (.int _ _) (.cons _ _ _ _ (.agg _ _ rfl fun j c p hc hp => ?_) .nil) ?_
          · match j, hc, hp with
            | 0, hc, hp => cases hc; cases hp; exact .p _
            | 1, hc, hp => cases hc; cases hp; exact Lend.all _ _ _ _ rfl (tP_len _).symm
            | 2, hc, hp => cases hc; cases hp; exact Lend.all _ _ _ _ rfl (cP_len _).symm
            | 3, hc, hp => cases hc; cases hp; exact .p _
          (conv => whnf)
          refine splitB_t rfl ?_
          repeat' ((conv => whnf); first | refine CallVC.pureF nil_same rfl ?_ | refine CallVC.pureF (hk few1) rfl ?_ | refine CallVC.pureF hw rfl ?_ | refine splitB_t rfl ?_ | refine splitB_f rfl ?_)
          (conv => whnf)
          refine CallVC.inline f14_ok ?_
          repeat' ((conv => whnf); first | (intro R hR; refine hR _ _ _ ?_) | refine splitB_f rfl ?_)
          (conv => whnf)
          refine CallVC.inline f12_ok ?_
          (conv => whnf)
          refine CallVC.pureF hckT rfl ?_
          (conv => whnf)
          refine splitB_f rfl ?_
          (conv => whnf)
          refine CallVC.inline f30_ok ?_
          (conv => whnf)
          refine CallVC.ghost 21 1 1 rfl rfl ?_
          refine CallVC.ghost 21 2 3 rfl rfl ?_
          refine CallVC.methM' [21, 22, 23, 20, 0, 1, 2, 3, 4, 5, 6, 7, 8, 9, 10, 11, 12, 13, 14, 15, 16, 17, 18, 19] 24 [.cells [.p (.int .u8 o), .p (.str t), .p (.int .i64 k), .p (.list 4 (encLs xs))], .cells [.p (.int .u8 o), .p (.str t), .p (.int .i64 k), .p (.lent 4 (encTLs xs) [markL])], .cells [.p (.int .u8 o), .p (.str t), .p (.int .i64 k), .p (.list 4 (encLs xs))], .cells [.p (.int .u8 0), .p .nils, .p .nils, .p (.int .i64 0)], .cells [.p (.int .u8 2), .view (.l 5) (finW (.mk o t k xs)).T.length 1 (finW (.mk o t k xs)).T.length, .view (.l 6) (finW (.mk o t k xs)).C.length 3 (finW (.mk o t k xs)).C.length, .p (.int .i64 (finW (.mk o t k xs)).S), .p (.int .i64 (finW (.mk o t k xs)).h), .p (.bool (finW (.mk o t k xs)).o)], .buf (finW (.mk o t k xs)).T.length 1 (tP (finW (.mk o t k xs)).T), .buf (finW (.mk o t k xs)).C.length 3 (cP (finW (.mk o t k xs)).C), .cells [.p (.int .u8 0), .p .nils, .p .nils, .p (.int .i64 0)], .cells [.p (.int .u8 0), .p .nils, .p .nils, .p (.int .i64 0)], .cells [.p (.int .u8 o), .p (.str t), .p (.int .i64 k), .p (.lent 4 (encTLs xs) [markL])], .cells [.p (.int .u8 0), .p .nils, .p .nils, .p (.int .i64 0)], .map (mP 0 (finB (.mk o t k xs)).T), .cells [.p (.int .u8 2), .view (.l 13) (finB (.mk o t k xs)).T.length 1 (finB (.mk o t k xs)).T.length, .view (.l 14) (finB (.mk o t k xs)).C.length 3 (finB (.mk o t k xs)).C.length, .p (.int .i64 (finB (.mk o t k xs)).S), .mapr (.l 11), .p (.int .i64 (finB (.mk o t k xs)).h)], .buf (finB (.mk o t k xs)).T.length 1 (tP (finB (.mk o t k xs)).T), .buf (finB (.mk o t k xs)).C.length 3 (cP (finB (.mk o t k xs)).C), .cells [.p (.int .u8 0), .p .nils, .p .nils, .p (.int .i64 0)], .cells [.p (.int .u8 0), .p .nils, .p .nils, .p (.int .i64 0)], .cells [.p (.int .u8 0), .p .nils, .p .nils, .p (.int .i64 0)], .cells [.p (.int .u8 o), .p (.str t), .p (.int .i64 k), .p (.lent 4 (encTLs xs) [markL])], .cells [.p (.int .u8 0), .p .nils, .p .nils, .p (.int .i64 0)], .map (mP 0 (licB (.mk o t k xs) b0).T), .cells [.p (.int .u8 2), .view (.l 22) (licB (.mk o t k xs) b0).T.length 1 (licB (.mk o t k xs) b0).T.length, .view (.l 23) (licB (.mk o t k xs) b0).C.length 3 (licB (.mk o t k xs) b0).C.length, .p (.int .i64 (licB (.mk o t k xs) b0).S), .mapr (.l 20), .p (.int .i64 (licB (.mk o t k xs) b0).h)], .buf (licB (.mk o t k xs) b0).T.length 1 (tP (licB (.mk o t k xs) b0).T), .buf (licB (.mk o t k xs) b0).C.length 3 (cP (licB (.mk o t k xs) b0).C)] hlicT rfl rfl rfl rfl rfl (by decide) (by decide) rfl ?_
          (conv => whnf)
          refine CallVC.methM' [21, 22, 23, 20, 0, 1, 2, 3, 4, 5, 6, 7, 8, 9, 10, 11, 12, 13, 14, 15, 16, 17, 18, 19] 24 [.cells [.p (.int .u8 o), .p (.str t), .p (.int .i64 k), .p (.list 4 (encLs xs))], .cells [.p (.int .u8 o), .p (.str t), .p (.int .i64 k), .p (.lent 4 (encTLs xs) [markL])], .cells [.p (.int .u8 o), .p (.str t), .p (.int .i64 k), .p (.list 4 (encLs xs))], .cells [.p (.int .u8 0), .p .nils, .p .nils, .p (.int .i64 0)], .cells [.p (.int .u8 2), .view (.l 5) (finW (.mk o t k xs)).T.length 1 (finW (.mk o t k xs)).T.length, .view (.l 6) (finW (.mk o t k xs)).C.length 3 (finW (.mk o t k xs)).C.length, .p (.int .i64 (finW (.mk o t k xs)).S), .p (.int .i64 (finW (.mk o t k xs)).h), .p (.bool (finW (.mk o t k xs)).o)], .buf (finW (.mk o t k xs)).T.length 1 (tP (finW (.mk o t k xs)).T), .buf (finW (.mk o t k xs)).C.length 3 (cP (finW (.mk o t k xs)).C), .cells [.p (.int .u8 0), .p .nils, .p .nils, .p (.int .i64 0)], .cells [.p (.int .u8 0), .p .nils, .p .nils, .p (.int .i64 0)], .cells [.p (.int .u8 o), .p (.str t), .p (.int .i64 k), .p (.lent 4 (encTLs xs) [markL])], .cells [.p (.int .u8 0), .p .nils, .p .nils, .p (.int .i64 0)], .map (mP 0 (finB (.mk o t k xs)).T), .cells [.p (.int .u8 2), .view (.l 13) (finB (.mk o t k xs)).T.length 1 (finB (.mk o t k xs)).T.length, .view (.l 14) (finB (.mk o t k xs)).C.length 3 (finB (.mk o t k xs)).C.length, .p (.int .i64 (finB (.mk o t k xs)).S), .mapr (.l 11), .p (.int .i64 (finB (.mk o t k xs)).h)], .buf (finB (.mk o t k xs)).T.length 1 (tP (finB (.mk o t k xs)).T), .buf (finB (.mk o t k xs)).C.length 3 (cP (finB (.mk o t k xs)).C), .cells [.p (.int .u8 0), .p .nils, .p .nils, .p (.int .i64 0)], .cells [.p (.int .u8 0), .p .nils, .p .nils, .p (.int .i64 0)], .cells [.p (.int .u8 0), .p .nils, .p .nils, .p (.int .i64 0)], .cells [.p (.int .u8 o), .p (.str t), .p (.int .i64 k), .p (.lent 4 (encTLs xs) [markL])], .cells [.p (.int .u8 0), .p .nils, .p .nils, .p (.int .i64 0)], .map (mP 0 (finB (.mk o t k xs)).T), .cells [.p (.int .u8 2), .view (.l 22) (finB (.mk o t k xs)).T.length 1 (finB (.mk o t k xs)).T.length, .view (.l 23) (finB (.mk o t k xs)).C.length 3 (finB (.mk o t k xs)).C.length, .p (.int .i64 (finB (.mk o t k xs)).S), .mapr (.l 20), .p (.int .i64 (finB (.mk o t k xs)).h)], .buf (finB (.mk o t k xs)).T.length 1 (tP (finB (.mk o t k xs)).T), .buf (finB (.mk o t k xs)).C.length 3 (cP (finB (.mk o t k xs)).C)] (op_spec 2 (licB (.mk o t k xs) b0) 38) rfl rfl rfl rfl rfl (by decide) (by decide) rfl ?_
          (conv => whnf)
          refine CallVC.inline f33_ok ?_
          (conv => whnf)
          refine CallVC.lend (ps := [encPg 2 (finB (.mk o t k xs)).T (finB (.mk o t k xs)).C (finB (.mk o t k xs)).S]) hcc (.int _ _) (.cons _ _ _ _ (.agg _ _ rfl fun j c p hc hp => ?_) .nil) ?_
          · match j, hc, hp with
            | 0, hc, hp => cases hc; cases hp; exact .p _
            | 1, hc, hp => cases hc; cases hp; exact Lend.all _ _ _ _ rfl (tP_len _).symm
            | 2, hc, hp => cases hc; cases hp; exact Lend.all _ _ _ _ rfl (cP_len _).symm
            | 3, hc, hp => cases hc; cases hp; exact .p _
          (conv => whnf)
          refine splitB_t rfl ?_
          repeat' ((conv => whnf); first | refine CallVC.pureF nil_same rfl ?_ | refine CallVC.pureF (hk few1) rfl ?_ | refine CallVC.pureF hw rfl ?_ | refine splitB_t rfl ?_ | refine splitB_f rfl ?_)
          exact ⟨rfl, rfl⟩
        · refine splitB_f (beq_eq_false_iff_ne.2 her) ?_
          repeat' ((conv => whnf); first | refine CallVC.pureF nil_same rfl ?_ | refine CallVC.pureF (hk few1) rfl ?_ | refine CallVC.pureF hw rfl ?_ | refine splitB_t rfl ?_ | refine splitB_f rfl ?_)
          (conv => whnf)
          refine CallVC.inline f12_ok ?_
          (conv => whnf)
          refine CallVC.pureF hckT rfl ?_
          (conv => whnf)
          refine splitB_f rfl ?_
          (conv => whnf)
          refine CallVC.inline f30_ok ?_
          (conv => whnf)
          refine CallVC.ghost 12 1 1 rfl rfl ?_
          refine CallVC.ghost 12 2 3 rfl rfl ?_
          refine CallVC.methM' [12, 13, 14, 11, 0, 1, 2, 3, 4, 5, 6, 7, 8, 9, 10] 15 [.cells [.p (.int .u8 o), .p (.str t), .p (.int .i64 k), .p (.list 4 (encLs xs))], .cells [.p (.int .u8 o), .p (.str t), .p (.int .i64 k), .p (.lent 4 (encTLs xs) [markL])], .cells [.p (.int .u8 o), .p (.str t), .p (.int .i64 k), .p (.list 4 (encLs xs))], .cells [.p (.int .u8 2), .view (.l 5) (finW (.mk o t k xs)).T.length 1 (finW (.mk o t k xs)).T.length, .view (.l 6) (finW (.mk o t k xs)).C.length 3 (finW (.mk o t k xs)).C.length, .p (.int .i64 (finW (.mk o t k xs)).S)], .cells [.p (.int .u8 2), .view (.l 5) (finW (.mk o t k xs)).T.length 1 (finW (.mk o t k xs)).T.length, .view (.l 6) (finW (.mk o t k xs)).C.length 3 (finW (.mk o t k xs)).C.length, .p (.int .i64 (finW (.mk o t k xs)).S), .p (.int .i64 (finW (.mk o t k xs)).h), .p (.bool (finW (.mk o t k xs)).o)], .buf (finW (.mk o t k xs)).T.length 1 (tP (finW (.mk o t k xs)).T), .buf (finW (.mk o t k xs)).C.length 3 (cP (finW (.mk o t k xs)).C), .cells [.p (.int .u8 2), .view (.l 5) (finW (.mk o t k xs)).T.length 1 (finW (.mk o t k xs)).T.length, .view (.l 6) (finW (.mk o t k xs)).C.length 3 (finW (.mk o t k xs)).C.length, .p (.int .i64 (finW (.mk o t k xs)).S)], .cells [.p (.int .u8 2), .view (.l 5) (finW (.mk o t k xs)).T.length 1 (finW (.mk o t k xs)).T.length, .view (.l 6) (finW (.mk o t k xs)).C.length 3 (finW (.mk o t k xs)).C.length, .p (.int .i64 (finW (.mk o t k xs)).S)], .cells [.p (.int .u8 o), .p (.str t), .p (.int .i64 k), .p (.lent 4 (encTLs xs) [markL])], .cells [.p (.int .u8 0), .p .nils, .p .nils, .p (.int .i64 0)], .map (mP 0 (licB (.mk o t k xs) b0).T), .cells [.p (.int .u8 2), .view (.l 13) (licB (.mk o t k xs) b0).T.length 1 (licB (.mk o t k xs) b0).T.length, .view (.l 14) (licB (.mk o t k xs) b0).C.length 3 (licB (.mk o t k xs) b0).C.length, .p (.int .i64 (licB (.mk o t k xs) b0).S), .mapr (.l 11), .p (.int .i64 (licB (.mk o t k xs) b0).h)], .buf (licB (.mk o t k xs) b0).T.length 1 (tP (licB (.mk o t k xs) b0).T), .buf (licB (.mk o t k xs) b0).C.length 3 (cP (licB (.mk o t k xs) b0).C)] hlicT rfl rfl rfl rfl rfl (by decide) (by decide) rfl ?_
          (conv => whnf)
          refine CallVC.methM' [12, 13, 14, 11, 0, 1, 2, 3, 4, 5, 6, 7, 8, 9, 10] 15 [.cells [.p (.int .u8 o), .p (.str t), .p (.int .i64 k), .p (.list 4 (encLs xs))], .cells [.p (.int .u8 o), .p (.str t), .p (.int .i64 k), .p (.lent 4 (encTLs xs) [markL])], .cells [.p (.int .u8 o), .p (.str t), .p (.int .i64 k), .p (.list 4 (encLs xs))], .cells [.p (.int .u8 2), .view (.l 5) (finW (.mk o t k xs)).T.length 1 (finW (.mk o t k xs)).T.length, .view (.l 6) (finW (.mk o t k xs)).C.length 3 (finW (.mk o t k xs)).C.length, .p (.int .i64 (finW (.mk o t k xs)).S)], .cells [.p (.int .u8 2), .view (.l 5) (finW (.mk o t k xs)).T.length 1 (finW (.mk o t k xs)).T.length, .view (.l 6) (finW (.mk o t k xs)).C.length 3 (finW (.mk o t k xs)).C.length, .p (.int .i64 (finW (.mk o t k xs)).S), .p (.int .i64 (finW (.mk o t k xs)).h), .p (.bool (finW (.mk o t k xs)).o)], .buf (finW (.mk o t k xs)).T.length 1 (tP (finW (.mk o t k xs)).T), .buf (finW (.mk o t k xs)).C.length 3 (cP (finW (.mk o t k xs)).C), .cells [.p (.int .u8 2), .view (.l 5) (finW (.mk o t k xs)).T.length 1 (finW (.mk o t k xs)).T.length, .view (.l 6) (finW (.mk o t k xs)).C.length 3 (finW (.mk o t k xs)).C.length, .p (.int .i64 (finW (.mk o t k xs)).S)], .cells [.p (.int .u8 2), .view (.l 5) (finW (.mk o t k xs)).T.length 1 (finW (.mk o t k xs)).T.length, .view (.l 6) (finW (.mk o t k xs)).C.length 3 (finW (.mk o t k xs)).C.length, .p (.int .i64 (finW (.mk o t k xs)).S)], .cells [.p (.int .u8 o), .p (.str t), .p (.int .i64 k), .p (.lent 4 (encTLs xs) [markL])], .cells [.p (.int .u8 0), .p .nils, .p .nils, .p (.int .i64 0)], .map (mP 0 (finB (.mk o t k xs)).T), .cells [.p (.int .u8 2), .view (.l 13) (finB (.mk o t k xs)).T.length 1 (finB (.mk o t k xs)).T.length, .view (.l 14) (finB (.mk o t k xs)).C.length 3 (finB (.mk o t k xs)).C.length, .p (.int .i64 (finB (.mk o t k xs)).S), .mapr (.l 11), .p (.int .i64 (finB (.mk o t k xs)).h)], .buf (finB (.mk o t k xs)).T.length 1 (tP (finB (.mk o t k xs)).T), .buf (finB (.mk o t k xs)).C.length 3 (cP (finB (.mk o t k xs)).C)] (op_spec 2 (licB (.mk o t k xs) b0) 38) rfl rfl rfl rfl rfl (by decide) (by decide) rfl ?_
          (conv => whnf)
          refine CallVC.inline f33_ok ?_
          (conv => whnf)
          refine CallVC.lend (ps := [encPg 2 (finB (.mk o t k xs)).T (finB (.mk o t k xs)).C (finB (.mk o t k xs)).S]) hcc (.int _ _) (.cons _ _ _ _ (.agg _ _ rfl fun j c p hc hp => ?_) .nil) ?_
          · match j, hc, hp with
            | 0, hc, hp => cases hc; cases hp; exact .p _
            | 1, hc, hp => cases hc; cases hp; exact Lend.all _ _ _ _ rfl (tP_len _).symm
            | 2, hc, hp => cases hc; cases hp; exact Lend.all _ _ _ _ rfl (cP_len _).symm
            | 3, hc, hp => cases hc; cases hp; exact .p _
          (conv => whnf)
          refine splitB_f (beq_eq_false_iff_ne.2 her) ?_
          repeat' ((conv => whnf); first | refine CallVC.pureF nil_same rfl ?_ | refine CallVC.pureF (hk few1) rfl ?_ | refine CallVC.pureF hw rfl ?_ | refine splitB_t rfl ?_ | refine splitB_f rfl ?_)
          (conv => whnf)
          refine CallVC.lend (ps := [encPg 2 (finW (.mk o t k xs)).T (finW (.mk o t k xs)).C (finW (.mk o t k xs)).S, encPg 2 (finW (.mk o t k xs)).T (finW (.mk o t k xs)).C (finW (.mk o t k xs)).S]) hsame (.bool _) (.cons _ _ _ _ (.agg _ _ rfl fun j c p hc hp => ?_) (.cons _ _ _ _ (.agg _ _ rfl fun j c p hc hp => ?_) .nil)) ?_
          · match j, hc, hp with
            | 0, hc, hp => cases hc; cases hp; exact .p _
            | 1, hc, hp => cases hc; cases hp; rw [← eT]; exact Lend.all _ _ _ _ rfl (tP_len _).symm
            | 2, hc, hp => cases hc; cases hp; rw [← eC]; exact Lend.all _ _ _ _ rfl (cP_len _).symm
            | 3, hc, hp => cases hc; cases hp; rw [← eS]; exact .p _
          · match j, hc, hp with
            | 0, hc, hp => cases hc; cases hp; exact .p _
            | 1, hc, hp => cases hc; cases hp; exact Lend.all _ _ _ _ rfl (tP_len _).symm
            | 2, hc, hp => cases hc; cases hp; exact Lend.all _ _ _ _ rfl (cP_len _).symm
            | 3, hc, hp => cases hc; cases hp; exact .p _
          (conv => whnf)
          repeat' ((conv => whnf); first | refine CallVC.pureF nil_same rfl ?_ | refine CallVC.pureF (hk few1) rfl ?_ | refine CallVC.pureF hw rfl ?_ | refine splitB_t rfl ?_ | refine splitB_f rfl ?_)
          (conv => whnf)
          refine CallVC.inline f14_ok ?_
          (conv => whnf)
          intro R hR
          have key : ∀ (d i : Nat) (zs : List ByteArray), zs.length = (finB (.mk o t k xs)).T.length → i + d = (finB (.mk o t k xs)).T.length → R [(1, .ref (.l 17) 0), (2, .p (.int .i64 i))] [] [.cells [.p (.int .u8 o), .p (.str t), .p (.int .i64 k), .p (.list 4 (encLs xs))], .cells [.p (.int .u8 o), .p (.str t), .p (.int .i64 k), .p (.lent 4 (encTLs xs) [markL])], .cells [.p (.int .u8 o), .p (.str t), .p (.int .i64 k), .p (.list 4 (encLs xs))], .cells [.p (.int .u8 2), .view (.l 5) (finW (.mk o t k xs)).T.length 1 (finW (.mk o t k xs)).T.length, .view (.l 6) (finW (.mk o t k xs)).C.length 3 (finW (.mk o t k xs)).C.length, .p (.int .i64 (finW (.mk o t k xs)).S)], .cells [.p (.int .u8 2), .view (.l 5) (finW (.mk o t k xs)).T.length 1 (finW (.mk o t k xs)).T.length, .view (.l 6) (finW (.mk o t k xs)).C.length 3 (finW (.mk o t k xs)).C.length, .p (.int .i64 (finW (.mk o t k xs)).S), .p (.int .i64 (finW (.mk o t k xs)).h), .p (.bool (finW (.mk o t k xs)).o)], .buf (finW (.mk o t k xs)).T.length 1 (tP (finW (.mk o t k xs)).T), .buf (finW (.mk o t k xs)).C.length 3 (cP (finW (.mk o t k xs)).C), .cells [.p (.int .u8 2), .view (.l 5) (finW (.mk o t k xs)).T.length 1 (finW (.mk o t k xs)).T.length, .view (.l 6) (finW (.mk o t k xs)).C.length 3 (finW (.mk o t k xs)).C.length, .p (.int .i64 (finW (.mk o t k xs)).S)], .cells [.p (.int .u8 2), .view (.l 5) (finW (.mk o t k xs)).T.length 1 (finW (.mk o t k xs)).T.length, .view (.l 6) (finW (.mk o t k xs)).C.length 3 (finW (.mk o t k xs)).C.length, .p (.int .i64 (finW (.mk o t k xs)).S)], .cells [.p (.int .u8 o), .p (.str t), .p (.int .i64 k), .p (.lent 4 (encTLs xs) [markL])], .cells [.p (.int .u8 2), .view (.l 13) (finB (.mk o t k xs)).T.length 1 (finB (.mk o t k xs)).T.length, .view (.l 14) (finB (.mk o t k xs)).C.length 3 (finB (.mk o t k xs)).C.length, .p (.int .i64 (finB (.mk o t k xs)).S)], .map (mP 0 (finB (.mk o t k xs)).T), .cells [.p (.int .u8 2), .view (.l 13) (finB (.mk o t k xs)).T.length 1 (finB (.mk o t k xs)).T.length, .view (.l 14) (finB (.mk o t k xs)).C.length 3 (finB (.mk o t k xs)).C.length, .p (.int .i64 (finB (.mk o t k xs)).S), .mapr (.l 11), .p (.int .i64 (finB (.mk o t k xs)).h)], .buf (finB (.mk o t k xs)).T.length 1 (tP zs), .buf (finB (.mk o t k xs)).C.length 3 (cP (finB (.mk o t k xs)).C), .cells [.p (.int .u8 2), .view (.l 13) (finB (.mk o t k xs)).T.length 1 (finB (.mk o t k xs)).T.length, .view (.l 14) (finB (.mk o t k xs)).C.length 3 (finB (.mk o t k xs)).C.length, .p (.int .i64 (finB (.mk o t k xs)).S)], .cells [.p (.int .u8 2), .view (.l 13) (finB (.mk o t k xs)).T.length 1 (finB (.mk o t k xs)).T.length, .view (.l 14) (finB (.mk o t k xs)).C.length 3 (finB (.mk o t k xs)).C.length, .p (.int .i64 (finB (.mk o t k xs)).S)], .cells [.p (.int .u8 2), .view (.l 13) (finB (.mk o t k xs)).T.length 1 (finB (.mk o t k xs)).T.length, .view (.l 14) (finB (.mk o t k xs)).C.length 3 (finB (.mk o t k xs)).C.length, .p (.int .i64 (finB (.mk o t k xs)).S)]] := by
            intro d
            induction d with
            | succ d ih =>
              intro i zs hz hd
              refine hR _ _ _ ?_
              (conv => whnf)
              refine ⟨rfl, ?_⟩
              (conv => whnf)
              refine splitB_t (decide_eq_true (by omega)) ?_
              (conv => whnf)
              refine ⟨⟨rfl, by omega, by omega⟩, ?_⟩
              (conv => whnf)
              refine ⟨rfl, ?_⟩
              (conv => whnf)
              refine ⟨⟨rfl, rfl⟩, .str zs[i], tP_get (List.getElem?_eq_getElem (by omega)), ?_⟩
              (conv => whnf)
              refine ⟨rfl, rfl, ?_⟩
              (conv => whnf)
              rw [IntWalk.i64_in (i + 1) (by omega)]
              have q := ih (i + 1) (zs.set i ⟨#[119, 114, 105, 116, 116, 101, 110, 32, 111, 118, 101, 114]⟩) (by rw [List.length_set]; exact hz) (by omega)
              have es : tP (zs.set i ⟨#[119, 114, 105, 116, 116, 101, 110, 32, 111, 118, 101, 114]⟩) = (tP zs).set (Int.toNat i) (.str ⟨#[119, 114, 105, 116, 116, 101, 110, 32, 111, 118, 101, 114]⟩) := by rw [tP, List.map_set]; rfl
              rw [es] at q
              exact q
            | zero =>
              intro i zs hz hd
              refine hR _ _ _ ?_
              (conv => whnf)
              refine ⟨rfl, ?_⟩
              (conv => whnf)
              refine splitB_f (decide_eq_false (by omega)) ?_
              (conv => whnf)
              intro R2 hR2
              have key2 : ∀ (d i : Nat) (ys : List Ins), ys.length = (finB (.mk o t k xs)).C.length → i + d = (finB (.mk o t k xs)).C.length → R2 [(1, .ref (.l 17) 0), (3, .p (.int .i64 i))] [] [.cells [.p (.int .u8 o), .p (.str t), .p (.int .i64 k), .p (.list 4 (encLs xs))], .cells [.p (.int .u8 o), .p (.str t), .p (.int .i64 k), .p (.lent 4 (encTLs xs) [markL])], .cells [.p (.int .u8 o), .p (.str t), .p (.int .i64 k), .p (.list 4 (encLs xs))], .cells [.p (.int .u8 2), .view (.l 5) (finW (.mk o t k xs)).T.length 1 (finW (.mk o t k xs)).T.length, .view (.l 6) (finW (.mk o t k xs)).C.length 3 (finW (.mk o t k xs)).C.length, .p (.int .i64 (finW (.mk o t k xs)).S)], .cells [.p (.int .u8 2), .view (.l 5) (finW (.mk o t k xs)).T.length 1 (finW (.mk o t k xs)).T.length, .view (.l 6) (finW (.mk o t k xs)).C.length 3 (finW (.mk o t k xs)).C.length, .p (.int .i64 (finW (.mk o t k xs)).S), .p (.int .i64 (finW (.mk o t k xs)).h), .p (.bool (finW (.mk o t k xs)).o)], .buf (finW (.mk o t k xs)).T.length 1 (tP (finW (.mk o t k xs)).T), .buf (finW (.mk o t k xs)).C.length 3 (cP (finW (.mk o t k xs)).C), .cells [.p (.int .u8 2), .view (.l 5) (finW (.mk o t k xs)).T.length 1 (finW (.mk o t k xs)).T.length, .view (.l 6) (finW (.mk o t k xs)).C.length 3 (finW (.mk o t k xs)).C.length, .p (.int .i64 (finW (.mk o t k xs)).S)], .cells [.p (.int .u8 2), .view (.l 5) (finW (.mk o t k xs)).T.length 1 (finW (.mk o t k xs)).T.length, .view (.l 6) (finW (.mk o t k xs)).C.length 3 (finW (.mk o t k xs)).C.length, .p (.int .i64 (finW (.mk o t k xs)).S)], .cells [.p (.int .u8 o), .p (.str t), .p (.int .i64 k), .p (.lent 4 (encTLs xs) [markL])], .cells [.p (.int .u8 2), .view (.l 13) (finB (.mk o t k xs)).T.length 1 (finB (.mk o t k xs)).T.length, .view (.l 14) (finB (.mk o t k xs)).C.length 3 (finB (.mk o t k xs)).C.length, .p (.int .i64 (finB (.mk o t k xs)).S)], .map (mP 0 (finB (.mk o t k xs)).T), .cells [.p (.int .u8 2), .view (.l 13) (finB (.mk o t k xs)).T.length 1 (finB (.mk o t k xs)).T.length, .view (.l 14) (finB (.mk o t k xs)).C.length 3 (finB (.mk o t k xs)).C.length, .p (.int .i64 (finB (.mk o t k xs)).S), .mapr (.l 11), .p (.int .i64 (finB (.mk o t k xs)).h)], .buf (finB (.mk o t k xs)).T.length 1 (tP zs), .buf (finB (.mk o t k xs)).C.length 3 (cP ys), .cells [.p (.int .u8 2), .view (.l 13) (finB (.mk o t k xs)).T.length 1 (finB (.mk o t k xs)).T.length, .view (.l 14) (finB (.mk o t k xs)).C.length 3 (finB (.mk o t k xs)).C.length, .p (.int .i64 (finB (.mk o t k xs)).S)], .cells [.p (.int .u8 2), .view (.l 13) (finB (.mk o t k xs)).T.length 1 (finB (.mk o t k xs)).T.length, .view (.l 14) (finB (.mk o t k xs)).C.length 3 (finB (.mk o t k xs)).C.length, .p (.int .i64 (finB (.mk o t k xs)).S)], .cells [.p (.int .u8 2), .view (.l 13) (finB (.mk o t k xs)).T.length 1 (finB (.mk o t k xs)).T.length, .view (.l 14) (finB (.mk o t k xs)).C.length 3 (finB (.mk o t k xs)).C.length, .p (.int .i64 (finB (.mk o t k xs)).S)]] := by
                intro d
                induction d with
                | succ d ih =>
                  intro i ys hz2 hd
                  refine hR2 _ _ _ ?_
                  (conv => whnf)
                  refine ⟨rfl, ?_⟩
                  (conv => whnf)
                  refine splitB_t (decide_eq_true (by omega)) ?_
                  (conv => whnf)
                  refine ⟨⟨rfl, by omega, by omega⟩, ?_⟩
                  (conv => whnf)
                  refine ⟨rfl, ?_⟩
                  (conv => whnf)
                  refine ⟨⟨rfl, rfl⟩, insP ys[i], cP_get (List.getElem?_eq_getElem (by omega)), ?_⟩
                  (conv => whnf)
                  rw [IntWalk.i64_in (i + 1) (by omega)]
                  have q := ih (i + 1) (ys.set i ⟨99, 0, 0⟩) (by rw [List.length_set]; exact hz2) (by omega)
                  have es : cP (ys.set i ⟨99, 0, 0⟩) = (cP ys).set (Int.toNat i) (insP ⟨99, 0, 0⟩) := by rw [cP, List.map_set]; rfl
                  rw [es] at q
                  exact q
                | zero =>
                  intro i ys hz2 hd
                  refine hR2 _ _ _ ?_
                  (conv => whnf)
                  refine ⟨rfl, ?_⟩
                  (conv => whnf)
                  refine splitB_f (decide_eq_false (by omega)) ?_
                  (conv => whnf)
                  refine CallVC.inline f12_ok ?_
                  (conv => whnf)
                  refine CallVC.pureF hckT rfl ?_
                  (conv => whnf)
                  refine splitB_f rfl ?_
                  (conv => whnf)
                  refine CallVC.inline f30_ok ?_
                  (conv => whnf)
                  refine CallVC.ghost 21 1 1 rfl rfl ?_
                  refine CallVC.ghost 21 2 3 rfl rfl ?_
                  refine CallVC.methM' [21, 22, 23, 20, 0, 1, 2, 3, 4, 5, 6, 7, 8, 9, 10, 11, 12, 13, 14, 15, 16, 17, 18, 19] 24 [.cells [.p (.int .u8 o), .p (.str t), .p (.int .i64 k), .p (.list 4 (encLs xs))], .cells [.p (.int .u8 o), .p (.str t), .p (.int .i64 k), .p (.lent 4 (encTLs xs) [markL])], .cells [.p (.int .u8 o), .p (.str t), .p (.int .i64 k), .p (.list 4 (encLs xs))], .cells [.p (.int .u8 2), .view (.l 5) (finW (.mk o t k xs)).T.length 1 (finW (.mk o t k xs)).T.length, .view (.l 6) (finW (.mk o t k xs)).C.length 3 (finW (.mk o t k xs)).C.length, .p (.int .i64 (finW (.mk o t k xs)).S)], .cells [.p (.int .u8 2), .view (.l 5) (finW (.mk o t k xs)).T.length 1 (finW (.mk o t k xs)).T.length, .view (.l 6) (finW (.mk o t k xs)).C.length 3 (finW (.mk o t k xs)).C.length, .p (.int .i64 (finW (.mk o t k xs)).S), .p (.int .i64 (finW (.mk o t k xs)).h), .p (.bool (finW (.mk o t k xs)).o)], .buf (finW (.mk o t k xs)).T.length 1 (tP (finW (.mk o t k xs)).T), .buf (finW (.mk o t k xs)).C.length 3 (cP (finW (.mk o t k xs)).C), .cells [.p (.int .u8 2), .view (.l 5) (finW (.mk o t k xs)).T.length 1 (finW (.mk o t k xs)).T.length, .view (.l 6) (finW (.mk o t k xs)).C.length 3 (finW (.mk o t k xs)).C.length, .p (.int .i64 (finW (.mk o t k xs)).S)], .cells [.p (.int .u8 2), .view (.l 5) (finW (.mk o t k xs)).T.length 1 (finW (.mk o t k xs)).T.length, .view (.l 6) (finW (.mk o t k xs)).C.length 3 (finW (.mk o t k xs)).C.length, .p (.int .i64 (finW (.mk o t k xs)).S)], .cells [.p (.int .u8 o), .p (.str t), .p (.int .i64 k), .p (.lent 4 (encTLs xs) [markL])], .cells [.p (.int .u8 2), .view (.l 13) (finB (.mk o t k xs)).T.length 1 (finB (.mk o t k xs)).T.length, .view (.l 14) (finB (.mk o t k xs)).C.length 3 (finB (.mk o t k xs)).C.length, .p (.int .i64 (finB (.mk o t k xs)).S)], .map (mP 0 (finB (.mk o t k xs)).T), .cells [.p (.int .u8 2), .view (.l 13) (finB (.mk o t k xs)).T.length 1 (finB (.mk o t k xs)).T.length, .view (.l 14) (finB (.mk o t k xs)).C.length 3 (finB (.mk o t k xs)).C.length, .p (.int .i64 (finB (.mk o t k xs)).S), .mapr (.l 11), .p (.int .i64 (finB (.mk o t k xs)).h)], .buf (finB (.mk o t k xs)).T.length 1 (tP zs), .buf (finB (.mk o t k xs)).C.length 3 (cP ys), .cells [.p (.int .u8 2), .view (.l 13) (finB (.mk o t k xs)).T.length 1 (finB (.mk o t k xs)).T.length, .view (.l 14) (finB (.mk o t k xs)).C.length 3 (finB (.mk o t k xs)).C.length, .p (.int .i64 (finB (.mk o t k xs)).S)], .cells [.p (.int .u8 2), .view (.l 13) (finB (.mk o t k xs)).T.length 1 (finB (.mk o t k xs)).T.length, .view (.l 14) (finB (.mk o t k xs)).C.length 3 (finB (.mk o t k xs)).C.length, .p (.int .i64 (finB (.mk o t k xs)).S)], .cells [.p (.int .u8 2), .view (.l 13) (finB (.mk o t k xs)).T.length 1 (finB (.mk o t k xs)).T.length, .view (.l 14) (finB (.mk o t k xs)).C.length 3 (finB (.mk o t k xs)).C.length, .p (.int .i64 (finB (.mk o t k xs)).S)], .cells [.p (.int .u8 o), .p (.str t), .p (.int .i64 k), .p (.lent 4 (encTLs xs) [markL])], .cells [.p (.int .u8 0), .p .nils, .p .nils, .p (.int .i64 0)], .map (mP 0 (licB (.mk o t k xs) b0).T), .cells [.p (.int .u8 2), .view (.l 22) (licB (.mk o t k xs) b0).T.length 1 (licB (.mk o t k xs) b0).T.length, .view (.l 23) (licB (.mk o t k xs) b0).C.length 3 (licB (.mk o t k xs) b0).C.length, .p (.int .i64 (licB (.mk o t k xs) b0).S), .mapr (.l 20), .p (.int .i64 (licB (.mk o t k xs) b0).h)], .buf (licB (.mk o t k xs) b0).T.length 1 (tP (licB (.mk o t k xs) b0).T), .buf (licB (.mk o t k xs) b0).C.length 3 (cP (licB (.mk o t k xs) b0).C)] hlicT rfl rfl rfl rfl rfl (by decide) (by decide) rfl ?_
                  (conv => whnf)
                  refine CallVC.methM' [21, 22, 23, 20, 0, 1, 2, 3, 4, 5, 6, 7, 8, 9, 10, 11, 12, 13, 14, 15, 16, 17, 18, 19] 24 [.cells [.p (.int .u8 o), .p (.str t), .p (.int .i64 k), .p (.list 4 (encLs xs))], .cells [.p (.int .u8 o), .p (.str t), .p (.int .i64 k), .p (.lent 4 (encTLs xs) [markL])], .cells [.p (.int .u8 o), .p (.str t), .p (.int .i64 k), .p (.list 4 (encLs xs))], .cells [.p (.int .u8 2), .view (.l 5) (finW (.mk o t k xs)).T.length 1 (finW (.mk o t k xs)).T.length, .view (.l 6) (finW (.mk o t k xs)).C.length 3 (finW (.mk o t k xs)).C.length, .p (.int .i64 (finW (.mk o t k xs)).S)], .cells [.p (.int .u8 2), .view (.l 5) (finW (.mk o t k xs)).T.length 1 (finW (.mk o t k xs)).T.length, .view (.l 6) (finW (.mk o t k xs)).C.length 3 (finW (.mk o t k xs)).C.length, .p (.int .i64 (finW (.mk o t k xs)).S), .p (.int .i64 (finW (.mk o t k xs)).h), .p (.bool (finW (.mk o t k xs)).o)], .buf (finW (.mk o t k xs)).T.length 1 (tP (finW (.mk o t k xs)).T), .buf (finW (.mk o t k xs)).C.length 3 (cP (finW (.mk o t k xs)).C), .cells [.p (.int .u8 2), .view (.l 5) (finW (.mk o t k xs)).T.length 1 (finW (.mk o t k xs)).T.length, .view (.l 6) (finW (.mk o t k xs)).C.length 3 (finW (.mk o t k xs)).C.length, .p (.int .i64 (finW (.mk o t k xs)).S)], .cells [.p (.int .u8 2), .view (.l 5) (finW (.mk o t k xs)).T.length 1 (finW (.mk o t k xs)).T.length, .view (.l 6) (finW (.mk o t k xs)).C.length 3 (finW (.mk o t k xs)).C.length, .p (.int .i64 (finW (.mk o t k xs)).S)], .cells [.p (.int .u8 o), .p (.str t), .p (.int .i64 k), .p (.lent 4 (encTLs xs) [markL])], .cells [.p (.int .u8 2), .view (.l 13) (finB (.mk o t k xs)).T.length 1 (finB (.mk o t k xs)).T.length, .view (.l 14) (finB (.mk o t k xs)).C.length 3 (finB (.mk o t k xs)).C.length, .p (.int .i64 (finB (.mk o t k xs)).S)], .map (mP 0 (finB (.mk o t k xs)).T), .cells [.p (.int .u8 2), .view (.l 13) (finB (.mk o t k xs)).T.length 1 (finB (.mk o t k xs)).T.length, .view (.l 14) (finB (.mk o t k xs)).C.length 3 (finB (.mk o t k xs)).C.length, .p (.int .i64 (finB (.mk o t k xs)).S), .mapr (.l 11), .p (.int .i64 (finB (.mk o t k xs)).h)], .buf (finB (.mk o t k xs)).T.length 1 (tP zs), .buf (finB (.mk o t k xs)).C.length 3 (cP ys), .cells [.p (.int .u8 2), .view (.l 13) (finB (.mk o t k xs)).T.length 1 (finB (.mk o t k xs)).T.length, .view (.l 14) (finB (.mk o t k xs)).C.length 3 (finB (.mk o t k xs)).C.length, .p (.int .i64 (finB (.mk o t k xs)).S)], .cells [.p (.int .u8 2), .view (.l 13) (finB (.mk o t k xs)).T.length 1 (finB (.mk o t k xs)).T.length, .view (.l 14) (finB (.mk o t k xs)).C.length 3 (finB (.mk o t k xs)).C.length, .p (.int .i64 (finB (.mk o t k xs)).S)], .cells [.p (.int .u8 2), .view (.l 13) (finB (.mk o t k xs)).T.length 1 (finB (.mk o t k xs)).T.length, .view (.l 14) (finB (.mk o t k xs)).C.length 3 (finB (.mk o t k xs)).C.length, .p (.int .i64 (finB (.mk o t k xs)).S)], .cells [.p (.int .u8 o), .p (.str t), .p (.int .i64 k), .p (.lent 4 (encTLs xs) [markL])], .cells [.p (.int .u8 0), .p .nils, .p .nils, .p (.int .i64 0)], .map (mP 0 (finB (.mk o t k xs)).T), .cells [.p (.int .u8 2), .view (.l 22) (finB (.mk o t k xs)).T.length 1 (finB (.mk o t k xs)).T.length, .view (.l 23) (finB (.mk o t k xs)).C.length 3 (finB (.mk o t k xs)).C.length, .p (.int .i64 (finB (.mk o t k xs)).S), .mapr (.l 20), .p (.int .i64 (finB (.mk o t k xs)).h)], .buf (finB (.mk o t k xs)).T.length 1 (tP (finB (.mk o t k xs)).T), .buf (finB (.mk o t k xs)).C.length 3 (cP (finB (.mk o t k xs)).C)] (op_spec 2 (licB (.mk o t k xs) b0) 38) rfl rfl rfl rfl rfl (by decide) (by decide) rfl ?_
                  (conv => whnf)
                  refine CallVC.inline f33_ok ?_
                  (conv => whnf)
                  refine CallVC.lend (ps := [encPg 2 (finB (.mk o t k xs)).T (finB (.mk o t k xs)).C (finB (.mk o t k xs)).S]) hcc (.int _ _) (.cons _ _ _ _ (.agg _ _ rfl fun j c p hc hp => ?_) .nil) ?_
                  · match j, hc, hp with
                    | 0, hc, hp => cases hc; cases hp; exact .p _
                    | 1, hc, hp => cases hc; cases hp; exact Lend.all _ _ _ _ rfl (tP_len _).symm
                    | 2, hc, hp => cases hc; cases hp; exact Lend.all _ _ _ _ rfl (cP_len _).symm
                    | 3, hc, hp => cases hc; cases hp; exact .p _
                  (conv => whnf)
                  refine splitB_f (beq_eq_false_iff_ne.2 her) ?_
                  repeat' ((conv => whnf); first | refine CallVC.pureF nil_same rfl ?_ | refine CallVC.pureF (hk few1) rfl ?_ | refine CallVC.pureF hw rfl ?_ | refine splitB_t rfl ?_ | refine splitB_f rfl ?_)
                  (conv => whnf)
                  refine CallVC.lend (ps := [encPg 2 (finW (.mk o t k xs)).T (finW (.mk o t k xs)).C (finW (.mk o t k xs)).S, encPg 2 (finW (.mk o t k xs)).T (finW (.mk o t k xs)).C (finW (.mk o t k xs)).S]) hsame (.bool _) (.cons _ _ _ _ (.agg _ _ rfl fun j c p hc hp => ?_) (.cons _ _ _ _ (.agg _ _ rfl fun j c p hc hp => ?_) .nil)) ?_
                  · match j, hc, hp with
                    | 0, hc, hp => cases hc; cases hp; exact .p _
                    | 1, hc, hp => cases hc; cases hp; rw [← eT]; exact Lend.all _ _ _ _ rfl (tP_len _).symm
                    | 2, hc, hp => cases hc; cases hp; rw [← eC]; exact Lend.all _ _ _ _ rfl (cP_len _).symm
                    | 3, hc, hp => cases hc; cases hp; rw [← eS]; exact .p _
                  · match j, hc, hp with
                    | 0, hc, hp => cases hc; cases hp; exact .p _
                    | 1, hc, hp => cases hc; cases hp; exact Lend.all _ _ _ _ rfl (tP_len _).symm
                    | 2, hc, hp => cases hc; cases hp; exact Lend.all _ _ _ _ rfl (cP_len _).symm
                    | 3, hc, hp => cases hc; cases hp; exact .p _
                  (conv => whnf)
                  repeat' ((conv => whnf); first | refine CallVC.pureF nil_same rfl ?_ | refine CallVC.pureF (hk few1) rfl ?_ | refine CallVC.pureF hw rfl ?_ | refine splitB_t rfl ?_ | refine splitB_f rfl ?_)
                  exact ⟨rfl, rfl⟩
              exact key2 (finB (.mk o t k xs)).C.length 0 (finB (.mk o t k xs)).C rfl (by omega)
          exact key (finB (.mk o t k xs)).T.length 0 (finB (.mk o t k xs)).T rfl (by omega)
      · have her : errP 2 (finB (.mk o t k xs)).T (finB (.mk o t k xs)).C (finB (.mk o t k xs)).S = 3 := by rw [errP, if_pos (by rcases hbig with h | h; exact .inl h; exact .inr h)]
        rw [her] at hcc
        refine splitB_t hov ?_
        repeat' ((conv => whnf); first | refine CallVC.pureF nil_same rfl ?_ | refine CallVC.pureF (hk few1) rfl ?_ | refine CallVC.pureF hw rfl ?_ | refine splitB_t rfl ?_ | refine splitB_f rfl ?_)
        (conv => whnf)
        refine CallVC.inline f12_ok ?_
        (conv => whnf)
        refine CallVC.pureF hckT rfl ?_
        (conv => whnf)
        refine splitB_f rfl ?_
        (conv => whnf)
        refine CallVC.inline f30_ok ?_
        (conv => whnf)
        refine CallVC.ghost 12 1 1 rfl rfl ?_
        refine CallVC.ghost 12 2 3 rfl rfl ?_
        refine CallVC.methM' [12, 13, 14, 11, 0, 1, 2, 3, 4, 5, 6, 7, 8, 9, 10] 15 [.cells [.p (.int .u8 o), .p (.str t), .p (.int .i64 k), .p (.list 4 (encLs xs))], .cells [.p (.int .u8 o), .p (.str t), .p (.int .i64 k), .p (.lent 4 (encTLs xs) [markL])], .cells [.p (.int .u8 o), .p (.str t), .p (.int .i64 k), .p (.list 4 (encLs xs))], .cells [.p (.int .u8 0), .p .nils, .p .nils, .p (.int .i64 0)], .cells [.p (.int .u8 2), .view (.l 5) (finW (.mk o t k xs)).T.length 1 (finW (.mk o t k xs)).T.length, .view (.l 6) (finW (.mk o t k xs)).C.length 3 (finW (.mk o t k xs)).C.length, .p (.int .i64 (finW (.mk o t k xs)).S), .p (.int .i64 (finW (.mk o t k xs)).h), .p (.bool (finW (.mk o t k xs)).o)], .buf (finW (.mk o t k xs)).T.length 1 (tP (finW (.mk o t k xs)).T), .buf (finW (.mk o t k xs)).C.length 3 (cP (finW (.mk o t k xs)).C), .cells [.p (.int .u8 0), .p .nils, .p .nils, .p (.int .i64 0)], .cells [.p (.int .u8 0), .p .nils, .p .nils, .p (.int .i64 0)], .cells [.p (.int .u8 o), .p (.str t), .p (.int .i64 k), .p (.lent 4 (encTLs xs) [markL])], .cells [.p (.int .u8 0), .p .nils, .p .nils, .p (.int .i64 0)], .map (mP 0 (licB (.mk o t k xs) b0).T), .cells [.p (.int .u8 2), .view (.l 13) (licB (.mk o t k xs) b0).T.length 1 (licB (.mk o t k xs) b0).T.length, .view (.l 14) (licB (.mk o t k xs) b0).C.length 3 (licB (.mk o t k xs) b0).C.length, .p (.int .i64 (licB (.mk o t k xs) b0).S), .mapr (.l 11), .p (.int .i64 (licB (.mk o t k xs) b0).h)], .buf (licB (.mk o t k xs) b0).T.length 1 (tP (licB (.mk o t k xs) b0).T), .buf (licB (.mk o t k xs) b0).C.length 3 (cP (licB (.mk o t k xs) b0).C)] hlicT rfl rfl rfl rfl rfl (by decide) (by decide) rfl ?_
        (conv => whnf)
        refine CallVC.methM' [12, 13, 14, 11, 0, 1, 2, 3, 4, 5, 6, 7, 8, 9, 10] 15 [.cells [.p (.int .u8 o), .p (.str t), .p (.int .i64 k), .p (.list 4 (encLs xs))], .cells [.p (.int .u8 o), .p (.str t), .p (.int .i64 k), .p (.lent 4 (encTLs xs) [markL])], .cells [.p (.int .u8 o), .p (.str t), .p (.int .i64 k), .p (.list 4 (encLs xs))], .cells [.p (.int .u8 0), .p .nils, .p .nils, .p (.int .i64 0)], .cells [.p (.int .u8 2), .view (.l 5) (finW (.mk o t k xs)).T.length 1 (finW (.mk o t k xs)).T.length, .view (.l 6) (finW (.mk o t k xs)).C.length 3 (finW (.mk o t k xs)).C.length, .p (.int .i64 (finW (.mk o t k xs)).S), .p (.int .i64 (finW (.mk o t k xs)).h), .p (.bool (finW (.mk o t k xs)).o)], .buf (finW (.mk o t k xs)).T.length 1 (tP (finW (.mk o t k xs)).T), .buf (finW (.mk o t k xs)).C.length 3 (cP (finW (.mk o t k xs)).C), .cells [.p (.int .u8 0), .p .nils, .p .nils, .p (.int .i64 0)], .cells [.p (.int .u8 0), .p .nils, .p .nils, .p (.int .i64 0)], .cells [.p (.int .u8 o), .p (.str t), .p (.int .i64 k), .p (.lent 4 (encTLs xs) [markL])], .cells [.p (.int .u8 0), .p .nils, .p .nils, .p (.int .i64 0)], .map (mP 0 (finB (.mk o t k xs)).T), .cells [.p (.int .u8 2), .view (.l 13) (finB (.mk o t k xs)).T.length 1 (finB (.mk o t k xs)).T.length, .view (.l 14) (finB (.mk o t k xs)).C.length 3 (finB (.mk o t k xs)).C.length, .p (.int .i64 (finB (.mk o t k xs)).S), .mapr (.l 11), .p (.int .i64 (finB (.mk o t k xs)).h)], .buf (finB (.mk o t k xs)).T.length 1 (tP (finB (.mk o t k xs)).T), .buf (finB (.mk o t k xs)).C.length 3 (cP (finB (.mk o t k xs)).C)] (op_spec 2 (licB (.mk o t k xs) b0) 38) rfl rfl rfl rfl rfl (by decide) (by decide) rfl ?_
        (conv => whnf)
        refine CallVC.inline f33_ok ?_
        (conv => whnf)
        refine CallVC.lend (ps := [encPg 2 (finB (.mk o t k xs)).T (finB (.mk o t k xs)).C (finB (.mk o t k xs)).S]) hcc (.int _ _) (.cons _ _ _ _ (.agg _ _ rfl fun j c p hc hp => ?_) .nil) ?_
        · match j, hc, hp with
          | 0, hc, hp => cases hc; cases hp; exact .p _
          | 1, hc, hp => cases hc; cases hp; exact Lend.all _ _ _ _ rfl (tP_len _).symm
          | 2, hc, hp => cases hc; cases hp; exact Lend.all _ _ _ _ rfl (cP_len _).symm
          | 3, hc, hp => cases hc; cases hp; exact .p _
        (conv => whnf)
        refine splitB_t rfl ?_
        repeat' ((conv => whnf); first | refine CallVC.pureF nil_same rfl ?_ | refine CallVC.pureF (hk few1) rfl ?_ | refine CallVC.pureF hw rfl ?_ | refine splitB_t rfl ?_ | refine splitB_f rfl ?_)
        (conv => whnf)
        refine CallVC.inline f14_ok ?_
        repeat' ((conv => whnf); first | (intro R hR; refine hR _ _ _ ?_) | refine splitB_f rfl ?_)
        (conv => whnf)
        refine CallVC.inline f12_ok ?_
        (conv => whnf)
        refine CallVC.pureF hckT rfl ?_
        (conv => whnf)
        refine splitB_f rfl ?_
        (conv => whnf)
        refine CallVC.inline f30_ok ?_
        (conv => whnf)
        refine CallVC.ghost 21 1 1 rfl rfl ?_
        refine CallVC.ghost 21 2 3 rfl rfl ?_
        refine CallVC.methM' [21, 22, 23, 20, 0, 1, 2, 3, 4, 5, 6, 7, 8, 9, 10, 11, 12, 13, 14, 15, 16, 17, 18, 19] 24 [.cells [.p (.int .u8 o), .p (.str t), .p (.int .i64 k), .p (.list 4 (encLs xs))], .cells [.p (.int .u8 o), .p (.str t), .p (.int .i64 k), .p (.lent 4 (encTLs xs) [markL])], .cells [.p (.int .u8 o), .p (.str t), .p (.int .i64 k), .p (.list 4 (encLs xs))], .cells [.p (.int .u8 0), .p .nils, .p .nils, .p (.int .i64 0)], .cells [.p (.int .u8 2), .view (.l 5) (finW (.mk o t k xs)).T.length 1 (finW (.mk o t k xs)).T.length, .view (.l 6) (finW (.mk o t k xs)).C.length 3 (finW (.mk o t k xs)).C.length, .p (.int .i64 (finW (.mk o t k xs)).S), .p (.int .i64 (finW (.mk o t k xs)).h), .p (.bool (finW (.mk o t k xs)).o)], .buf (finW (.mk o t k xs)).T.length 1 (tP (finW (.mk o t k xs)).T), .buf (finW (.mk o t k xs)).C.length 3 (cP (finW (.mk o t k xs)).C), .cells [.p (.int .u8 0), .p .nils, .p .nils, .p (.int .i64 0)], .cells [.p (.int .u8 0), .p .nils, .p .nils, .p (.int .i64 0)], .cells [.p (.int .u8 o), .p (.str t), .p (.int .i64 k), .p (.lent 4 (encTLs xs) [markL])], .cells [.p (.int .u8 0), .p .nils, .p .nils, .p (.int .i64 0)], .map (mP 0 (finB (.mk o t k xs)).T), .cells [.p (.int .u8 2), .view (.l 13) (finB (.mk o t k xs)).T.length 1 (finB (.mk o t k xs)).T.length, .view (.l 14) (finB (.mk o t k xs)).C.length 3 (finB (.mk o t k xs)).C.length, .p (.int .i64 (finB (.mk o t k xs)).S), .mapr (.l 11), .p (.int .i64 (finB (.mk o t k xs)).h)], .buf (finB (.mk o t k xs)).T.length 1 (tP (finB (.mk o t k xs)).T), .buf (finB (.mk o t k xs)).C.length 3 (cP (finB (.mk o t k xs)).C), .cells [.p (.int .u8 0), .p .nils, .p .nils, .p (.int .i64 0)], .cells [.p (.int .u8 0), .p .nils, .p .nils, .p (.int .i64 0)], .cells [.p (.int .u8 0), .p .nils, .p .nils, .p (.int .i64 0)], .cells [.p (.int .u8 o), .p (.str t), .p (.int .i64 k), .p (.lent 4 (encTLs xs) [markL])], .cells [.p (.int .u8 0), .p .nils, .p .nils, .p (.int .i64 0)], .map (mP 0 (licB (.mk o t k xs) b0).T), .cells [.p (.int .u8 2), .view (.l 22) (licB (.mk o t k xs) b0).T.length 1 (licB (.mk o t k xs) b0).T.length, .view (.l 23) (licB (.mk o t k xs) b0).C.length 3 (licB (.mk o t k xs) b0).C.length, .p (.int .i64 (licB (.mk o t k xs) b0).S), .mapr (.l 20), .p (.int .i64 (licB (.mk o t k xs) b0).h)], .buf (licB (.mk o t k xs) b0).T.length 1 (tP (licB (.mk o t k xs) b0).T), .buf (licB (.mk o t k xs) b0).C.length 3 (cP (licB (.mk o t k xs) b0).C)] hlicT rfl rfl rfl rfl rfl (by decide) (by decide) rfl ?_
        (conv => whnf)
        refine CallVC.methM' [21, 22, 23, 20, 0, 1, 2, 3, 4, 5, 6, 7, 8, 9, 10, 11, 12, 13, 14, 15, 16, 17, 18, 19] 24 [.cells [.p (.int .u8 o), .p (.str t), .p (.int .i64 k), .p (.list 4 (encLs xs))], .cells [.p (.int .u8 o), .p (.str t), .p (.int .i64 k), .p (.lent 4 (encTLs xs) [markL])], .cells [.p (.int .u8 o), .p (.str t), .p (.int .i64 k), .p (.list 4 (encLs xs))], .cells [.p (.int .u8 0), .p .nils, .p .nils, .p (.int .i64 0)], .cells [.p (.int .u8 2), .view (.l 5) (finW (.mk o t k xs)).T.length 1 (finW (.mk o t k xs)).T.length, .view (.l 6) (finW (.mk o t k xs)).C.length 3 (finW (.mk o t k xs)).C.length, .p (.int .i64 (finW (.mk o t k xs)).S), .p (.int .i64 (finW (.mk o t k xs)).h), .p (.bool (finW (.mk o t k xs)).o)], .buf (finW (.mk o t k xs)).T.length 1 (tP (finW (.mk o t k xs)).T), .buf (finW (.mk o t k xs)).C.length 3 (cP (finW (.mk o t k xs)).C), .cells [.p (.int .u8 0), .p .nils, .p .nils, .p (.int .i64 0)], .cells [.p (.int .u8 0), .p .nils, .p .nils, .p (.int .i64 0)], .cells [.p (.int .u8 o), .p (.str t), .p (.int .i64 k), .p (.lent 4 (encTLs xs) [markL])], .cells [.p (.int .u8 0), .p .nils, .p .nils, .p (.int .i64 0)], .map (mP 0 (finB (.mk o t k xs)).T), .cells [.p (.int .u8 2), .view (.l 13) (finB (.mk o t k xs)).T.length 1 (finB (.mk o t k xs)).T.length, .view (.l 14) (finB (.mk o t k xs)).C.length 3 (finB (.mk o t k xs)).C.length, .p (.int .i64 (finB (.mk o t k xs)).S), .mapr (.l 11), .p (.int .i64 (finB (.mk o t k xs)).h)], .buf (finB (.mk o t k xs)).T.length 1 (tP (finB (.mk o t k xs)).T), .buf (finB (.mk o t k xs)).C.length 3 (cP (finB (.mk o t k xs)).C), .cells [.p (.int .u8 0), .p .nils, .p .nils, .p (.int .i64 0)], .cells [.p (.int .u8 0), .p .nils, .p .nils, .p (.int .i64 0)], .cells [.p (.int .u8 0), .p .nils, .p .nils, .p (.int .i64 0)], .cells [.p (.int .u8 o), .p (.str t), .p (.int .i64 k), .p (.lent 4 (encTLs xs) [markL])], .cells [.p (.int .u8 0), .p .nils, .p .nils, .p (.int .i64 0)], .map (mP 0 (finB (.mk o t k xs)).T), .cells [.p (.int .u8 2), .view (.l 22) (finB (.mk o t k xs)).T.length 1 (finB (.mk o t k xs)).T.length, .view (.l 23) (finB (.mk o t k xs)).C.length 3 (finB (.mk o t k xs)).C.length, .p (.int .i64 (finB (.mk o t k xs)).S), .mapr (.l 20), .p (.int .i64 (finB (.mk o t k xs)).h)], .buf (finB (.mk o t k xs)).T.length 1 (tP (finB (.mk o t k xs)).T), .buf (finB (.mk o t k xs)).C.length 3 (cP (finB (.mk o t k xs)).C)] (op_spec 2 (licB (.mk o t k xs) b0) 38) rfl rfl rfl rfl rfl (by decide) (by decide) rfl ?_
        (conv => whnf)
        refine CallVC.inline f33_ok ?_
        (conv => whnf)
        refine CallVC.lend (ps := [encPg 2 (finB (.mk o t k xs)).T (finB (.mk o t k xs)).C (finB (.mk o t k xs)).S]) hcc (.int _ _) (.cons _ _ _ _ (.agg _ _ rfl fun j c p hc hp => ?_) .nil) ?_
        · match j, hc, hp with
          | 0, hc, hp => cases hc; cases hp; exact .p _
          | 1, hc, hp => cases hc; cases hp; exact Lend.all _ _ _ _ rfl (tP_len _).symm
          | 2, hc, hp => cases hc; cases hp; exact Lend.all _ _ _ _ rfl (cP_len _).symm
          | 3, hc, hp => cases hc; cases hp; exact .p _
        (conv => whnf)
        refine splitB_t rfl ?_
        repeat' ((conv => whnf); first | refine CallVC.pureF nil_same rfl ?_ | refine CallVC.pureF (hk few1) rfl ?_ | refine CallVC.pureF hw rfl ?_ | refine splitB_t rfl ?_ | refine splitB_f rfl ?_)
        exact ⟨rfl, rfl⟩

end Go.Proofs.Ythmlninecfjjgaa.AD
