/- Chapter 22: the program's builder and the document's writer write the same for licensees; programs compared. -/
import Derived.Test.YthmlninecfjjgaaL8
namespace Go.Proofs.Ythmlninecfjjgaa.AD
open Go.Proofs
set_option linter.unusedVariables false
set_option linter.unusedSimpArgs false
set_option maxRecDepth 100000

/-- The same so far, or beyond a limit for good. -/
def Big (b : Bs) : Prop := 32768 < b.C.length ∨ 8192 < b.T.length
def Sim (b : Bs) (w : Ws) : Prop := (w.o = false ∧ b.T = w.T ∧ b.C = w.C ∧ b.S = w.S ∧ b.h = w.h) ∨ (w.o = true ∧ Big b)

theorem putB_big (x : Ins) {b : Bs} (h : Big b) : Big (putB x b) := by
  rcases h with h | h
  · refine .inl ?_
    have e : (putB x b).C = b.C := by simp only [putB]; rw [if_neg (by omega)]
    rw [e]; exact h
  · exact .inr h
theorem namedB_big (o : Int) (s : ByteArray) {b : Bs} (h : Big b) : Big (namedB o s b) := by
  rw [namedB]
  split
  · exact putB_big _ h
  · refine putB_big _ ?_
    rcases h with h | h
    · exact .inl h
    · refine .inr ?_
      simp only [List.length_append]
      omega
theorem sim_put (x : Ins) {b : Bs} {w : Ws} (h : Sim b w) : Sim (putB x b) (putW x w) := by
  rcases h with ⟨h0, h1, h2, h3, h4⟩ | ⟨h0, h1⟩
  · by_cases hc : 32768 < w.C.length
    · refine .inr ⟨by rw [putW, if_pos (.inr hc)], putB_big _ (.inl (by rw [h2]; exact hc))⟩
    · refine .inl ?_
      rw [putW, if_neg (by rw [h0]; simp; omega)]
      refine ⟨h0, h1, ?_, ?_, ?_⟩
      · simp only [putB]; rw [if_pos (by rw [h2]; omega), h2]
      · simp only [putB, h3, h4]
      · simp only [putB, h4]
  · exact .inr ⟨by rw [putW, if_pos (.inl h0)], putB_big _ h1⟩
theorem sim_named (o : Int) (s : ByteArray) {b : Bs} {w : Ws} (h : Sim b w) : Sim (namedB o s b) (namedW o s w) := by
  rcases h with ⟨h0, h1, h2, h3, h4⟩ | ⟨h0, h1⟩
  · rw [namedB, namedW, if_neg (by rw [h0]; simp), h1]
    cases tix s w.T with
    | some i => exact sim_put _ (.inl ⟨h0, h1, h2, h3, h4⟩)
    | none =>
      simp only []
      by_cases ht : 8192 < w.T.length
      · rw [if_pos ht]
        refine .inr ⟨rfl, putB_big _ (.inr ?_)⟩
        simp only [List.length_append]
        omega
      · rw [if_neg ht]
        exact sim_put _ (.inl ⟨h0, by simp only [], h2, h3, h4⟩)
  · rw [namedW, if_pos h0]
    exact .inr ⟨h0, namedB_big _ _ h1⟩

theorem licB_big : (∀ e b, Big b → Big (licB e b)) ∧ ∀ l b, Big b → Big (licsB l b) := by
  have main : ∀ l : List Li, (∀ a, a ∈ l → ∀ b, Big b → Big (licB a b)) → ∀ b, Big b → Big (licsB l b) := by
    intro l
    induction l with
    | nil => intro _ b h; exact h
    | cons a r ih => intro h b hb; exact ih (fun c hc => h c (by simp [hc])) _ (h a (by simp) b hb)
  have one : ∀ e b, Big b → Big (licB e b) := by
    intro e
    induction e using Li.ind with
    | h o t k xs ih =>
      intro b hb
      have h1 := main xs ih b hb
      simp only [licB]
      (repeat' split) <;> first | exact namedB_big _ _ hb | exact putB_big _ h1
  exact ⟨one, fun l => main l fun a _ => one a⟩

theorem sim_lic (e : Li) : chkLi e = true → ∀ b w, Sim b w → Sim (licB e b) (licW e w) := by
  induction e using Li.ind with
  | h o t k xs ih =>
    intro hc b w h
    simp only [licB, licW]
    simp only [chkLi] at hc
    by_cases h1 : o = 1
    · rw [if_pos h1, if_pos h1]; exact sim_named _ _ h
    · rw [if_neg h1] at hc
      simp only [Bool.and_eq_true] at hc
      obtain ⟨⟨hc1, _⟩, hc2⟩ := hc
      rw [if_neg h1, if_neg h1]
      have main : ∀ l : List Li, (∀ a, a ∈ l → a ∈ xs) → chkLs l = true → ∀ b w, Sim b w → Sim (licsB l b) (licsW l w) := by
        intro l
        induction l with
        | nil => intro _ _ b w h; exact h
        | cons a r ihr =>
          intro hl hcl b w h
          simp only [chkLs, Bool.and_eq_true] at hcl
          simp only [licsB, licsW]
          by_cases hov : w.o = true
          · rw [if_pos hov]
            rcases h with ⟨h0, _⟩ | ⟨_, hb⟩
            · rw [h0] at hov; cases hov
            · exact .inr ⟨hov, licB_big.2 r _ (licB_big.1 a b hb)⟩
          · rw [if_neg hov]
            exact ihr (fun c hcc => hl c (by simp [hcc])) hcl.2 _ _ (ih a (hl a (by simp)) hcl.1 b w h)
      have h2 := main xs (fun _ h => h) hc2 b w h
      by_cases g2 : o = 2
      · rw [if_pos g2, if_pos g2]; exact sim_put _ h2
      · rw [if_neg g2, if_neg g2]
        by_cases g3 : o = 3
        · rw [if_pos g3, if_pos g3]; exact sim_put _ h2
        · rw [if_neg g3, if_neg g3]
          have g4 : o = 4 := by
            rw [if_neg (by omega)] at hc1
            by_cases g4 : o = 4
            · exact g4
            · rw [if_neg g4] at hc1; cases hc1
          rw [if_pos g4]
          exact sim_put _ h2

/-! ### programs compared -/
theorem eqCells_ins (x : Ins) : eqCells [.int .u8, .int .i64, .int .i64] [.int .u8 x.op, .int .i64 x.a, .int .i64 x.b] [.int .u8 x.op, .int .i64 x.a, .int .i64 x.b] = some true := by
  simp [eqCells]
theorem SameProgram_spec (κ : Int) (T : List ByteArray) (C : List Ins) (S : Int) (hTl : T.length ≤ 1000000000) (hCl : C.length ≤ 1000000000) : pureF Try.prog 13 [.p (encPg κ T C S), .p (encPg κ T C S)] (.p (.bool true)) := by
  have hT := tP_len T
  have hC := cP_len C
  refine pureF_of f13_ok fun H => ?_
  repeat' ((conv => whnf); first | refine splitB_t rfl ?_ | refine splitB_f rfl ?_ | refine splitB_f (by simp) ?_)
  (conv => whnf)
  intro R hR
  have key : ∀ (rest : List ByteArray) (i : Nat), T.drop i = rest → R [(2, .ref (.l 0) 0), (3, .ref (.l 1) 0), (5, .p (.int .i64 i))] H [.cells [.p (.int .u8 κ), .p (.list 1 (tP T)), .p (.list 3 (cP C)), .p (.int .i64 S)], .cells [.p (.int .u8 κ), .p (.list 1 (tP T)), .p (.list 3 (cP C)), .p (.int .i64 S)]] := by
    intro rest
    induction rest with
    | nil =>
      intro i hd
      have hl := drop_nil hd
      refine hR _ _ _ ?_
      (conv => whnf)
      refine splitB_f (decide_eq_false (by omega)) ?_
      (conv => whnf)
      intro R2 hR2
      have key2 : ∀ (rest : List Ins) (i : Nat), C.drop i = rest → R2 [(2, .ref (.l 0) 0), (3, .ref (.l 1) 0), (6, .p (.int .i64 i))] H [.cells [.p (.int .u8 κ), .p (.list 1 (tP T)), .p (.list 3 (cP C)), .p (.int .i64 S)], .cells [.p (.int .u8 κ), .p (.list 1 (tP T)), .p (.list 3 (cP C)), .p (.int .i64 S)]] := by
        intro rest
        induction rest with
        | nil =>
          intro i hd
          have hl := drop_nil hd
          refine hR2 _ _ _ ?_
          (conv => whnf)
          refine splitB_f (decide_eq_false (by omega)) ?_
          exact ⟨rfl, rfl⟩
        | cons x r ihr =>
          intro i hd
          obtain ⟨hg, hd', hi⟩ := drop_cons hd
          refine hR2 _ _ _ ?_
          (conv => whnf)
          refine splitB_t (decide_eq_true (by omega)) ?_
          (conv => whnf)
          refine ⟨rfl, insP x, ⟨by omega, cP_get hg⟩, ?_⟩
          (conv => whnf)
          refine ⟨rfl, insP x, ⟨by omega, cP_get hg⟩, ?_⟩
          (conv => whnf)
          refine ⟨true, eqCells_ins x, ?_⟩
          (conv => whnf)
          refine splitB_f rfl ?_
          (conv => whnf)
          rw [IntWalk.i64_in (i + 1) (by omega)]
          exact ihr (i + 1) hd'
      exact key2 C 0 rfl
    | cons t r ihr =>
      intro i hd
      obtain ⟨hg, hd', hi⟩ := drop_cons hd
      refine hR _ _ _ ?_
      (conv => whnf)
      refine splitB_t (decide_eq_true (by omega)) ?_
      (conv => whnf)
      refine ⟨rfl, .str t, ⟨by omega, tP_get hg⟩, ?_⟩
      (conv => whnf)
      refine ⟨rfl, .str t, ⟨by omega, tP_get hg⟩, ?_⟩
      (conv => whnf)
      refine splitB_f (by simp) ?_
      (conv => whnf)
      rw [IntWalk.i64_in (i + 1) (by omega)]
      exact ihr (i + 1) hd'
  exact key T 0 rfl

end Go.Proofs.Ythmlninecfjjgaa.AD
