/- Chapter 15: conds' reader: clauses and programs, plainly; clauses walked. -/
import Derived.Test.YtemfnlidinnniaaG6
import Derived.Test.YtemfnlidinnniaaProg
import Derived.Test.YtemfnlidinnniaaChecked
import Derived.Shelf.Strings.BuilderX
import Derived.Shelf.Strings.Builder1
import Derived.Shelf.RegionOpenPlain
import Derived.Lib.Strings
import Derived.Lib.Slices
import Derived.Lib.Walk
import Derived.Lib.Builder
import Derived.Lib.AppendStr
import Derived.Lib.UnsafeStr
import Derived.WalkKit
import Derived.Laws.Externs
import Derived.KernelRfl
import Derived.Test.YtemfnlidinnniaaG3
import Derived.BigCall
namespace Go.Proofs.Ytemfnlidinnniaa.AD
open Go.Proofs
set_option linter.unusedVariables false
set_option linter.unusedSimpArgs false
set_option linter.unusedSectionVars false
set_option maxRecDepth 100000

abbrev RP := RC → Option (PO (List Cl))
abbrev zeroX : Ex := .mk 0 ⟨#[]⟩ []
section
variable (L : List Tok) (X : RX) (prog : RP)
def semiC (c : Cl) (st : RC) : PO Cl := match mustC L ⟨#[59]⟩ st with
  | .bad e s => .bad e s
  | .ok _ s => .ok c s
def blockC (st : RC) : Option (PO (List Cl)) := match prog st with
  | none => none
  | some (.bad e s) => some (.bad e s)
  | some (.ok l s) => match mustC L ⟨#[125]⟩ s with
    | .bad e s => some (.bad e s)
    | .ok _ s => some (.ok l s)
def clauseC (st : RC) : Option (PO Cl) := match X 1 st with
  | none => none
  | some (.bad e s) => some (.bad e s)
  | some (.ok t s) =>
    if eqL (peekC L s) ⟨#[45, 62]⟩ = true then
      (if eqL (peekC L (advC s)) ⟨#[123]⟩ = true then (match deepC (advC s) (blockC L prog) with
        | none => none
        | some (.bad e s) => some (.bad e s)
        | some (.ok l s) => some (semiC L (.mk 3 t zeroX l) s))
      else match X 5 (advC s) with
        | none => none
        | some (.bad e s) => some (.bad e s)
        | some (.ok v s) => some (semiC L (.mk 2 t v []) s))
    else some (semiC L (.mk 1 t zeroX []) s)
def goesC (st : RC) : Bool := decide (st.a < L.length) && !eqL (peekC L st) ⟨#[125]⟩
def progLoopC (cl : RC → Option (PO Cl)) : Nat → List Cl → RC → Option (PO (List Cl))
  | 0, _, _ => none
  | k + 1, acc, st => if goesC L st = true then (match cl st with
      | none => none
      | some (.bad e s) => some (.bad e s)
      | some (.ok c s) => progLoopC cl k (acc ++ [c]) s)
    else some (.ok acc st)
end
def progC (L : List Tok) (m : Nat) : Nat → RP
  | 0 => fun _ => none
  | k + 1 => progLoopC L (clauseC L (exprC L m) (progC L m k)) 9000 []

def OkayCl (L : List Tok) (en : Nat) (cl : RC → Option (PO Cl)) : Prop := ∀ (st : RC) (o : PO Cl), GoodC L st → cl st = some o →
  After L st o ∧ MethP Try.prog 53 [.ref (.b 0) 0] (rcO L en st) (outC L en encC o)
def OkayPr (L : List Tok) (en : Nat) (pr : RP) : Prop := ∀ (st : RC) (o : PO (List Cl)), GoodC L st → pr st = some o →
  After L st o ∧ MethP Try.prog 31 [.ref (.b 0) 0] (rcO L en st) (outC L en (fun l => .list 8 (encCs l)) o)

section
variable {L : List Tok} {en : Nat} {X : RX} {prog : RP} (hL : L.length ≤ 8192) (okX : OkayX L en X) (okP : OkayPr L en prog)
include hL okX okP
theorem semi_after {c : Cl} {st0 st : RC} (hg : GoodC L st) (hd : st.deep = st0.deep) : After L st0 (semiC L c st) := by
  have := must_after hL okX (s := ⟨#[59]⟩) (by decide) hg
  unfold semiC
  split
  · trivial
  · rename_i s h; rw [h] at this; exact ⟨this.1, this.2.trans hd⟩
theorem block_after {st : RC} {o : PO (List Cl)} (hg : GoodC L st) (h : blockC L prog st = some o) : After L st o := by
  unfold blockC at h
  split at h
  · cases h
  · cases h; trivial
  · rename_i l s h1
    have h2 := (okP _ _ hg h1).1
    have h3 := must_after hL okX (s := ⟨#[125]⟩) (by decide) h2.1
    split at h
    · cases h; trivial
    · rename_i hm; cases h; rw [hm] at h3; exact ⟨h3.1, h3.2.trans h2.2⟩
theorem clause_after {st : RC} {o : PO Cl} (hg : GoodC L st) (h : clauseC L X prog st = some o) : After L st o := by
  unfold clauseC at h
  split at h
  · cases h
  · cases h; trivial
  · rename_i t s h1
    obtain ⟨g1, d1⟩ := (okX _ _ _ hg h1).1
    split at h
    · rename_i hb
      have hlt := peek_lt hb (by decide)
      have g2 : GoodC L (advC s) := ⟨hlt, g1.2⟩
      split at h
      · rename_i hb2
        have hlt2 := peek_lt hb2 (by decide)
        split at h
        · cases h
        · cases h; trivial
        · rename_i l s3 h3
          have h4 := deep_after hL okX g2 hlt2 (fun s o hs h => block_after hL okX okP hs h) h3
          cases h
          exact semi_after hL okX okP h4.1 (h4.2.trans d1)
      · split at h
        · cases h
        · cases h; trivial
        · rename_i v s3 h3
          have h4 := (okX _ _ _ g2 h3).1
          cases h
          exact semi_after hL okX okP h4.1 (h4.2.trans d1)
    · cases h
      exact semi_after hL okX okP g1 d1

set_option maxHeartbeats 1000000 in
theorem clauseC_okay : OkayCl L en (clauseC L X prog) := by
  intro st o hg h
  refine ⟨clause_after hL okX okP hg h, MethP.of f53_ok fun rest => ?_⟩
  have hml : (L.map tkP).length = L.length := List.length_map _
  have last : ∀ (k o1 : Int) (t1 : ByteArray) (xs1 : List Ex) (o2 : Int) (t2 : ByteArray) (xs2 : List Ex) (b : List Cl) (v3 v4 : PV) (s : RC), ((v3 = .nils ∧ xs2 = []) ∨ v3 = .list 3 (encs xs2)) → ((v4 = .nils ∧ b = []) ∨ v4 = .list 8 (encCs b)) → o = semiC L (.mk k (.mk o1 t1 xs1) (.mk o2 t2 xs2) b) s → GoodC L s →
      W Try.prog f53.c17 [(1, .ref (.l 0) 0), (2, .ref (.l 1) 0), (3, .ref (.l 2) 0)] (rcO L en s ++ rest)
        [.cells [.ref (.b 0) 0], .cells [.p (.int .u8 0), .p (.int .u8 0), .p (.str ⟨#[]⟩), .p .nils, .p (.int .u8 0), .p (.str ⟨#[]⟩), .p .nils, .p .nils], .cells [.p (.int .u8 k), .p (.int .u8 o1), .p (.str t1), .p (.list 3 (encs xs1)), .p (.int .u8 o2), .p (.str t2), .p v3, .p v4]]
        (endPQ f53 (fun r' H' => match outC L en encC o with | .ret r os' => (∃ p, r' = .p p ∧ p.le r) ∧ H' = os' ++ rest | .pan _ _ => False) fun ch H' => match outC L en encC o with | .ret _ _ => False | .pan ch' os' => ch = ch' ∧ H' = os' ++ rest) := by
    intro k o1 t1 xs1 o2 t2 xs2 b v3 v4 s l3 l4 ho g1
    have hmu := mustC_spec L hL en s ⟨#[59]⟩ (by decide)
    unfold semiC at ho
    (conv => whnf)
    generalize mustC L ⟨#[59]⟩ s = mm at ho hmu
    refine CallPV.same hmu rfl ?_
    cases mm with
    | bad e s3 =>
      subst ho
      refine ⟨rcO_ok _ _ _ _, ?_⟩
      (conv => whnf)
      exact ⟨rfl, rfl⟩
    | ok u s3 =>
      subst ho
      refine ⟨rcO_ok _ _ _ _, ?_⟩
      (conv => whnf)
      have e3 : PV.le v3 (.list 3 (encs xs2)) := by
        rcases l3 with ⟨rfl, rfl⟩ | rfl
        · exact .nils 3
        · exact .refl _
      have e4 : PV.le v4 (.list 8 (encCs b)) := by
        rcases l4 with ⟨rfl, rfl⟩ | rfl
        · exact .nils 8
        · exact .refl _
      have ee : PV.le (.agg [.int .u8 k, .int .u8 o1, .str t1, .list 3 (encs xs1), .int .u8 o2, .str t2, v3, v4]) (encC (.mk k (.mk o1 t1 xs1) (.mk o2 t2 xs2) b)) :=
        .agg (.cons _ _ _ _ (.refl _) (.cons _ _ _ _ (.refl _) (.cons _ _ _ _ (.refl _) (.cons _ _ _ _ (.refl _) (.cons _ _ _ _ (.refl _) (.cons _ _ _ _ (.refl _) (.cons _ _ _ _ e3 (.cons _ _ _ _ e4 .nil))))))))
      rcases l3 with ⟨rfl, rfl⟩ | rfl <;> rcases l4 with ⟨rfl, rfl⟩ | rfl
      all_goals
        (conv => whnf)
        exact ⟨⟨_, rfl, ee⟩, rfl⟩
  unfold clauseC at h
  have hpk0 := peek_spec L hL en
  (conv => whnf)
  cases h1 : X 1 st with
  | none => rw [h1] at h; cases h
  | some oo =>
    rw [h1] at h
    obtain ⟨ha1, hm1⟩ := okX 1 st oo hg h1
    refine CallPV.same hm1 rfl ?_
    cases oo with
    | bad e s =>
      cases h
      refine ⟨rcO_ok _ _ _ _, ?_⟩
      (conv => whnf)
      exact ⟨rfl, rfl⟩
    | ok t s =>
      obtain ⟨o1, t1, xs1⟩ := t
      obtain ⟨g1, d1⟩ := ha1
      have hg1 := g1.1
      have hg2 := g1.2
      simp only at h
      refine ⟨rcO_ok _ _ _ _, ?_⟩
      have hpk := hpk0 s
      (conv => whnf)
      refine CallVC.same hpk rfl rfl rfl ?_
      (conv => whnf)
      refine splitB_intro (fun b1 => ?_) (fun b1 => ?_)
      rotate_left
      · have b1' : ¬ eqL (peekC L s) ⟨#[45, 62]⟩ = true := by rw [← eqL_toList]; simp only [Bool.not_eq_true]; exact b1
        rw [if_neg b1'] at h
        have h := Option.some.inj h
        have q := last 1 o1 t1 xs1 0 ⟨#[]⟩ [] [] .nils .nils s (.inl ⟨rfl, rfl⟩) (.inl ⟨rfl, rfl⟩) h.symm g1
        (conv at q => whnf)
        (conv => whnf)
        exact q
      · have b1' : eqL (peekC L s) ⟨#[45, 62]⟩ = true := by rw [← eqL_toList]; exact b1
        rw [if_pos b1'] at h
        have hlt := peek_lt b1' (by decide)
        have g2 : GoodC L (advC s) := ⟨hlt, g1.2⟩
        have hpk2 := hpk0 (advC s)
        (conv => whnf)
        rw [IntWalk.i64_in _ (by omega)]
        (conv => whnf)
        refine CallVC.same hpk2 rfl rfl rfl ?_
        (conv => whnf)
        refine splitB_intro (fun b2 => ?_) (fun b2 => ?_)
        · have b2' : eqL (peekC L (advC s)) ⟨#[123]⟩ = true := by rw [← eqL_toList]; exact b2
          rw [if_pos b2'] at h
          have hlt2 := peek_lt b2' (by decide)
          (conv => whnf)
          refine deeper_spec L hL en (advC s) g2 rest _ _ _ (by kernel_rfl) (fun h64 => ?_) (fun h64 => ?_)
          · unfold deepC at h
            rw [if_pos h64] at h
            cases h
            (conv => whnf)
            exact ⟨rfl, rfl⟩
          · unfold deepC at h
            rw [if_neg h64] at h
            refine CallPV.inline f70_ok ?_
            (conv => whnf)
            unfold blockC at h
            cases hrec : prog ⟨(advC s).a + 1, (advC s).deep + 1⟩ with
            | none => rw [hrec] at h; cases h
            | some oo =>
              rw [hrec] at h
              have hg22 := g2.2
              obtain ⟨ha2, hm2⟩ := okP ⟨(advC s).a + 1, (advC s).deep + 1⟩ oo ⟨hlt2, by simp only; omega⟩ hrec
              refine CallPV.same hm2 rfl ?_
              cases oo with
              | bad e s2 =>
                cases h
                refine ⟨rcO_ok _ _ _ _, ?_⟩
                (conv => whnf)
                exact ⟨rfl, rfl⟩
              | ok b s2 =>
                refine ⟨rcO_ok _ _ _ _, ?_⟩
                obtain ⟨g3, d3⟩ := ha2
                simp only at d3 h
                have hmu := mustC_spec L hL en s2 ⟨#[125]⟩ (by decide)
                have hma := must_after hL okX (s := ⟨#[125]⟩) (by decide) g3
                (conv => whnf)
                generalize mustC L ⟨#[125]⟩ s2 = mm at h hmu hma
                refine CallPV.same hmu rfl ?_
                cases mm with
                | bad e s3 =>
                  cases h
                  refine ⟨rcO_ok _ _ _ _, ?_⟩
                  (conv => whnf)
                  exact ⟨rfl, rfl⟩
                | ok u s3 =>
                  simp only at h
                  have h := Option.some.inj h
                  obtain ⟨g4, d4⟩ := hma
                  have b4 := g4.2
                  have e1 : (advC s).deep = s.deep := rfl
                  refine ⟨rcO_ok _ _ _ _, ?_⟩
                  (conv => whnf)
                  refine ⟨s3, rfl, ⟨by omega, by omega⟩, ?_⟩
                  have q := last 3 o1 t1 xs1 0 ⟨#[]⟩ [] b .nils (.list 8 (encCs b)) ⟨s3.a, s3.deep - 1⟩ (.inl ⟨rfl, rfl⟩) (.inr rfl) h.symm ⟨g4.1, by simp only; omega⟩
                  (conv at q => whnf)
                  (conv => whnf)
                  exact q
        · have b2' : ¬ eqL (peekC L (advC s)) ⟨#[123]⟩ = true := by rw [← eqL_toList]; simp only [Bool.not_eq_true]; exact b2
          rw [if_neg b2'] at h
          (conv => whnf)
          cases h3 : X 5 (advC s) with
          | none => rw [h3] at h; cases h
          | some oo =>
            rw [h3] at h
            obtain ⟨ha3, hm3⟩ := okX 5 (advC s) oo g2 h3
            refine CallPV.same hm3 rfl ?_
            cases oo with
            | bad e s2 =>
              cases h
              refine ⟨rcO_ok _ _ _ _, ?_⟩
              (conv => whnf)
              exact ⟨rfl, rfl⟩
            | ok v s2 =>
              obtain ⟨o2, t2, xs2⟩ := v
              simp only at h
              have h := Option.some.inj h
              refine ⟨rcO_ok _ _ _ _, ?_⟩
              have q := last 2 o1 t1 xs1 o2 t2 xs2 [] (.list 3 (encs xs2)) .nils s2 (.inr rfl) (.inl ⟨rfl, rfl⟩) h.symm ha3.1
              (conv at q => whnf)
              (conv => whnf)
              exact q
end

end Go.Proofs.Ytemfnlidinnniaa.AD

namespace Go.Proofs.Ytemfnlidinnniaa.AD
open Go.Proofs
set_option linter.unusedVariables false
set_option linter.unusedSimpArgs false
set_option linter.unusedSectionVars false
set_option maxRecDepth 100000

theorem encCs_app (a b : List Cl) : encCs (a ++ b) = encCs a ++ encCs b := by rw [encCs_map, encCs_map, encCs_map, List.map_append]

set_option maxHeartbeats 1000000 in
theorem prog_okay {L : List Tok} {en : Nat} {cl : RC → Option (PO Cl)} (hL : L.length ≤ 8192) (ok : OkayCl L en cl) : OkayPr L en (progLoopC L cl 9000 []) := by
  intro st o hg h
  have hloop : ∀ (k : Nat) (acc : List Cl) (st1 : RC), GoodC L st1 → st1.deep = st.deep → progLoopC L cl k acc st1 = some o → After L st o := by
    intro k
    induction k with
    | zero => intro acc st1 _ _ h; cases h
    | succ k ih =>
      intro acc st1 g1 d1 h
      simp only [progLoopC] at h
      split at h
      · split at h
        · cases h
        · cases h; trivial
        · rename_i c st2 h2
          obtain ⟨⟨g2, d2⟩, _⟩ := ok st1 _ g1 h2
          exact ih _ _ g2 (d2.trans d1) h
      · cases h; exact ⟨g1, d1⟩
  refine ⟨hloop _ _ _ hg rfl h, MethP.of f31_ok fun rest => ?_⟩
  clear hloop
  have hml : (L.map tkP).length = L.length := List.length_map _
  have hpk0 := peek_spec L hL en
  (conv => whnf)
  intro R hR
  have key : ∀ (k : Nat) (acc : List Cl) (g : Nat) (st1 : RC), GoodC L st1 → acc.length + k ≤ 9000 → progLoopC L cl k acc st1 = some o →
      R [(0, .ref (.b 0) 0), (2, .view (.l 0) g 8 acc.length)] (rcO L en st1 ++ rest) [.buf g 8 (encCs acc)] := by
    intro k
    induction k with
    | zero => intro acc g st1 _ _ h; cases h
    | succ k ih =>
      intro acc g st1 g1 hk h
      have hal := encCs_len acc
      have hpk := hpk0 st1
      simp only [progLoopC] at h
      have stop : goesC L st1 = false → o = .ok acc st1 := fun hb => by
        rw [if_neg (by rw [hb]; simp)] at h
        cases h; rfl
      refine hR _ _ _ ?_
      (conv => whnf)
      refine splitB_dec (fun h1 => ?_) (fun h1 => ?_)
      rotate_left
      · obtain rfl := stop (by rw [goesC, decide_eq_false (by omega : ¬ st1.a < L.length)]; rfl)
        repeat' ((conv => whnf); first | refine splitB_t rfl ?_ | refine splitB_f rfl ?_ | done)
        (conv => whnf)
        exact ⟨⟨rfl, rfl⟩, .inl ⟨encCs acc, by omega, List.take_of_length_le (by omega), ⟨_, rfl, .refl _⟩, rfl⟩⟩
      (conv => whnf)
      refine CallD.same hpk rfl ?_
      cases hb : eqL (peekC L st1) ⟨#[125]⟩ with
      | true =>
        obtain rfl := stop (by rw [goesC, hb]; simp)
        refine splitB_f (by rw [eqL_toList, hb]; rfl) ?_
        repeat' ((conv => whnf); first | refine splitB_t rfl ?_ | refine splitB_f rfl ?_ | done)
        (conv => whnf)
        exact ⟨⟨rfl, rfl⟩, .inl ⟨encCs acc, by omega, List.take_of_length_le (by omega), ⟨_, rfl, .refl _⟩, rfl⟩⟩
      | false =>
        rw [if_pos (by rw [goesC, decide_eq_true (by omega : st1.a < L.length), hb]; rfl)] at h
        refine splitB_t (by rw [eqL_toList, hb]; rfl) ?_
        repeat' ((conv => whnf); first | refine splitB_t rfl ?_ | refine splitB_f rfl ?_ | done)
        (conv => whnf)
        cases h2 : cl st1 with
        | none => rw [h2] at h; cases h
        | some oo =>
          rw [h2] at h
          obtain ⟨ha2, m2⟩ := ok st1 oo g1 h2
          refine CallPV.same m2 rfl ?_
          cases oo with
          | bad e s2 =>
            cases h
            refine ⟨rcO_ok _ _ _ _, ?_⟩
            (conv => whnf)
            exact ⟨rfl, rfl⟩
          | ok c st2 =>
            simp only at h
            obtain ⟨g2, d2⟩ := ha2
            obtain ⟨kk, ⟨o1, t, xs⟩, ⟨o2, t2, xs2⟩, b⟩ := c
            refine ⟨rcO_ok _ _ _ _, ?_⟩
            (conv => whnf)
            refine ⟨rfl, ?_⟩
            (conv => whnf)
            refine ⟨⟨rfl, rfl, rfl, by omega⟩, by simp only [room]; simp; omega, encCs (acc ++ [.mk kk (.mk o1 t xs) (.mk o2 t2 xs2) b]), by rw [List.take_of_length_le (by omega), encCs_app]; rfl, ?_⟩
            (conv => whnf)
            have q := ih (acc ++ [.mk kk (.mk o1 t xs) (.mk o2 t2 xs2) b]) (g + 1) st2 g2 (by rw [List.length_append]; simp only [List.length_cons, List.length_nil]; omega) h
            rw [List.length_append] at q
            exact q
  exact key 9000 [] 0 st hg (by simp) h

theorem progC_okay {L : List Tok} (en : Nat) (hL : L.length ≤ 8192) (m : Nat) : ∀ k, OkayPr L en (progC L m k)
  | 0 => fun st o _ h => by cases h
  | k + 1 => prog_okay hL (clauseC_okay hL (exprC_okay en hL m) (progC_okay en hL m k))

/-! what a reader gives up with -/
section
variable {L : List Tok} {X : RX} {prog : RP} (hX : ∀ least st o, X least st = some o → BadE o) (hP : ∀ st o, prog st = some o → BadE o)
include hX hP
theorem semi_bad (c : Cl) (st : RC) : BadE (semiC L c st) := by
  have h3 := must_bad hX (L := L) ⟨#[59]⟩ st
  unfold semiC
  split
  · rename_i h2; rw [h2] at h3; exact h3
  · trivial
theorem block_bad (st : RC) (o : PO (List Cl)) (h : blockC L prog st = some o) : BadE o := by
  unfold blockC at h
  split at h
  · cases h
  · rename_i h1; cases h; exact hP _ _ h1
  · rename_i l s h1
    have h3 := must_bad hX (L := L) ⟨#[125]⟩ s
    split at h
    · rename_i h2; cases h; rw [h2] at h3; exact h3
    · cases h; trivial
theorem clause_bad (st : RC) (o : PO Cl) (h : clauseC L X prog st = some o) : BadE o := by
  unfold clauseC at h
  split at h
  · cases h
  · rename_i h1; cases h; exact hX _ _ _ h1
  · split at h
    · split at h
      · split at h
        · cases h
        · rename_i h1; cases h; have q := deep_bad hX (fun s o h => block_bad hX hP s o h) h1; exact q
        · cases h; exact semi_bad hX hP _ _
      · split at h
        · cases h
        · rename_i h1; cases h; exact hX _ _ _ h1
        · cases h; exact semi_bad hX hP _ _
    · cases h; exact semi_bad hX hP _ _
end
theorem loopP_bad {L : List Tok} {cl : RC → Option (PO Cl)} (hC : ∀ st o, cl st = some o → BadE o) : ∀ (k : Nat) (acc : List Cl) (st : RC) (o : PO (List Cl)), progLoopC L cl k acc st = some o → BadE o
  | 0, _, _, _, h => by cases h
  | k + 1, acc, st, o, h => by
    simp only [progLoopC] at h
    split at h
    · split at h
      · cases h
      · rename_i h1; cases h; exact hC _ _ h1
      · exact loopP_bad hC k _ _ _ h
    · cases h; trivial
theorem progC_bad {L : List Tok} {m : Nat} : ∀ (k : Nat) (st : RC) (o : PO (List Cl)), progC L m k st = some o → BadE o
  | 0, _, _, h => by cases h
  | k + 1, st, o, h => loopP_bad (clause_bad (exprC_bad m) (progC_bad k)) _ _ _ _ h

def outP : RO (List Cl) → PV
  | .ok l => .tup [.list 8 (encCs l), .int .i64 0, .int .i64 0]
  | .err p e => .tup [.nils, .int .i64 p, .int .i64 e]

theorem Parse_spec (s : ByteArray) (hsz : (s.size : Int) ≤ 9223372036854775807) (m k : Nat) {o : RO (List Cl)} (h : readC s (fun L => progC L m k ⟨0, 0⟩) = some o) : pureF Try.prog 12 [.p (.str s)] (.p (outP o)) := by
  refine pureF_of f12_ok fun H => ?_
  have htk := Tokens_spec s hsz
  unfold readC at h
  (conv => whnf)
  refine CallVC.defers (d := d27) (r := r42) d27_ok r42_ok rfl ?_
  (conv => whnf)
  refine CallVC.pureF htk rfl ?_
  cases hT : tokensR s with
  | err p e =>
    rw [hT] at h
    have h := Option.some.inj h
    subst h
    have he := (tokensR_err hT).1
    (conv => whnf)
    refine splitB_ne (fun _ => ?_) (fun e0 => by have e0 : e = 0 := e0; omega)
    (conv => whnf)
    refine ⟨rfl, ?_⟩
    (conv => whnf)
    refine splitB_ne (fun _ => ?_) (fun e0 => by have e0 : e = 0 := e0; omega)
    (conv => whnf)
    exact ⟨rfl, rfl⟩
  | ok L =>
    rw [hT] at h
    simp only at h
    have hL := tokensR_len hT
    have hml : (L.map tkP).length = L.length := List.length_map _
    (conv => whnf)
    refine splitB_f rfl ?_
    (conv => whnf)
    refine ⟨rfl, ?_⟩
    refine CallPV.inline f30_ok ?_
    (conv => whnf)
    obtain ⟨oo, hx, rfl⟩ := Option.map_eq_some_iff.1 h
    obtain ⟨haf, hm⟩ := progC_okay s.size hL m k ⟨0, 0⟩ oo ⟨Nat.zero_le _, Nat.zero_le _⟩ hx
    refine CallPV.methF [_, _, _] [] hm rfl rfl rfl rfl ?_
    have hb := progC_bad _ _ _ hx
    cases oo with
    | bad e st =>
      refine ⟨⟨rfl, rfl⟩, ?_⟩
      (conv => whnf)
      refine ⟨98, .agg [.int .i64 (placeC L s.size st), .int .i64 e], _, rfl, rfl, ?_⟩
      (conv => whnf)
      refine splitB_t rfl ?_
      (conv => whnf)
      refine ⟨rfl, ?_⟩
      (conv => whnf)
      refine splitB_f rfl ?_
      (conv => whnf)
      repeat (refine ⟨rfl, ?_⟩; (conv => whnf))
      refine splitB_ne (fun _ => ?_) (fun e0 => by have e0 : e = 0 := e0; have hb : e = 150 ∨ e = 3 := hb; omega)
      (conv => whnf)
      exact ⟨rfl, rfl⟩
    | ok x st =>
      have hg : st.a ≤ L.length := haf.1.1
      refine ⟨⟨rfl, rfl⟩, ?_⟩
      (conv => whnf)
      refine splitB_dec (fun h1 => ?_) (fun h1 => ?_)
      · have h1 : st.a < L.length := by omega
        (conv => whnf)
        refine CallPV.methF [_, _, _] [] (failC_spec L hL s.size st 150) rfl rfl rfl rfl ?_
        refine ⟨⟨rfl, rfl⟩, ?_⟩
        (conv => whnf)
        refine ⟨98, .agg [.int .i64 (placeC L s.size st), .int .i64 150], _, rfl, rfl, ?_⟩
        (conv => whnf)
        refine splitB_t rfl ?_
        (conv => whnf)
        refine ⟨rfl, ?_⟩
        (conv => whnf)
        refine splitB_f rfl ?_
        (conv => whnf)
        repeat (refine ⟨rfl, ?_⟩; (conv => whnf))
        refine splitB_t rfl ?_
        (conv => whnf)
        rw [show endC L s.size (PO.ok x st) = .err (placeC L s.size st) 150 from if_pos h1]
        exact ⟨rfl, rfl⟩
      · have h1 : ¬ st.a < L.length := by omega
        (conv => whnf)
        refine splitB_f rfl ?_
        (conv => whnf)
        refine splitB_f rfl ?_
        (conv => whnf)
        rw [show endC L s.size (PO.ok x st) = .ok x from if_neg h1]
        exact ⟨rfl, rfl⟩

end Go.Proofs.Ytemfnlidinnniaa.AD

namespace Go.Proofs.Ytemfnlidinnniaa.AD
open Go.Proofs
set_option linter.unusedVariables false
set_option linter.unusedSimpArgs false
set_option linter.unusedSectionVars false
set_option maxRecDepth 100000

/-- The tokens of one list stand in another, from a place on. -/
def SameT (L M : List Tok) (n : Nat) : Prop := ∀ i t, L[i]? = some t → ∃ u, M[n + i]? = some u ∧ u.k = t.k ∧ u.t = t.t
def inert (M : List Tok) (a : Nat) : Prop := (binC (peekC M ⟨a, 0⟩)).2.2.2 = 0
def Upto (L M : List Tok) (n a : Nat) : Prop := a < L.length ∨ inert M (n + L.length)
def mvC (n δ : Nat) (st : RC) : RC := ⟨n + st.a, δ + st.deep⟩
def OutM {α : Type} (n δ : Nat) (x : α) (s : RC) (r : Option (PO α)) : Prop := r = some (.ok x (mvC n δ s)) ∨ (δ ≠ 0 ∧ ∃ s', r = some (.bad 3 s'))
/-- What a reader that goes well leaves. -/
def Goes {α : Type} (L : List Tok) (k : RC → Option (PO α)) : Prop := ∀ st x s, GoodC L st → k st = some (.ok x s) → GoodC L s ∧ s.deep = st.deep ∧ st.a < s.a
def SimK {α : Type} (L M : List Tok) (n δ : Nat) (k k' : RC → Option (PO α)) : Prop := ∀ st x s, GoodC L st → k st = some (.ok x s) → Upto L M n s.a → OutM n δ x s (k' (mvC n δ st))

section
variable {L M : List Tok} {n δ : Nat} (hs : SameT L M n)
include hs
theorem peek_sim {st : RC} (h : st.a < L.length) : peekC M (mvC n δ st) = peekC L st := by
  obtain ⟨u, h1, h2, h3⟩ := hs st.a L[st.a] (List.getElem?_eq_getElem h)
  unfold peekC
  rw [List.getElem?_eq_getElem h]
  simp only [mvC, h1, h2, h3]
theorem upto_le {a b : Nat} (h : a ≤ b) (hb : b ≤ L.length) (u : Upto L M n b) : Upto L M n a := by
  rcases u with u | u
  · exact .inl (by omega)
  · exact .inr u
theorem must_sim {sg : ByteArray} (hsg : sg.data.toList ≠ []) {st s : RC} {u : Unit} (h : mustC L sg st = .ok u s) : s = advC st ∧ st.a < L.length ∧ mustC M sg (mvC n δ st) = .ok () (mvC n δ s) := by
  unfold mustC at h
  split at h
  · rename_i hb
    cases h
    have hlt := peek_lt hb hsg
    refine ⟨rfl, hlt, ?_⟩
    unfold mustC
    rw [peek_sim hs hlt, if_pos hb]
    rfl
  · cases h
theorem alone_sim {st s : RC} {e : Ex} (h : aloneC L st = .ok e s) : s = advC st ∧ st.a < L.length ∧ aloneC M (mvC n δ st) = .ok e (mvC n δ s) := by
  unfold aloneC at h
  split at h
  · cases h
  · rename_i t ht
    obtain ⟨u, h1, h2, h3⟩ := hs st.a t ht
    have hl : litC u = litC t := by unfold litC; rw [h2, h3]
    split at h
    · cases h
    · rename_i e' he
      cases h
      refine ⟨rfl, (List.getElem?_eq_some_iff.1 ht).1, ?_⟩
      unfold aloneC
      simp only [mvC, h1, hl, he]
      rfl
theorem deep_sim {α : Type} {k k' : RC → Option (PO α)} (hk : Goes L k) (sk : SimK L M n δ k k') {st s : RC} {x : α} (hg : GoodC L st) (hlt : st.a < L.length) (h : deepC st k = some (.ok x s)) (u : Upto L M n s.a) : OutM n δ x s (deepC (mvC n δ st) k') := by
  unfold deepC at h
  split at h
  · cases h
  · rename_i hd
    have g1 : GoodC L ⟨st.a + 1, st.deep + 1⟩ := ⟨hlt, by have := hg.2; simp only; omega⟩
    cases h1 : k ⟨st.a + 1, st.deep + 1⟩ with
    | none => rw [h1] at h; cases h
    | some o =>
      rw [h1] at h
      cases o with
      | bad e s1 => cases h
      | ok x1 s1 =>
        cases h
        obtain ⟨g2, d2, _⟩ := hk _ _ _ g1 h1
        unfold deepC
        by_cases hd' : (mvC n δ st).deep = 64
        · rw [if_pos hd']
          refine .inr ⟨fun e => ?_, _, rfl⟩
          subst e
          simp only [mvC] at hd'
          omega
        · rw [if_neg hd']
          have q := sk _ _ _ g1 h1 u
          have e : (⟨(mvC n δ st).a + 1, (mvC n δ st).deep + 1⟩ : RC) = mvC n δ ⟨st.a + 1, st.deep + 1⟩ := rfl
          rw [e]
          rcases q with q | ⟨q1, s', q⟩
          · rw [q]
            refine .inl ?_
            simp only [mvC]
            simp only at d2
            rw [show δ + s1.deep - 1 = δ + (s1.deep - 1) by omega]
          · rw [q]; exact .inr ⟨q1, _, rfl⟩
theorem deep_goes {α : Type} {k : RC → Option (PO α)} (hk : Goes L k) {st s : RC} {x : α} (hg : GoodC L st) (hlt : st.a < L.length) (h : deepC st k = some (.ok x s)) : GoodC L s ∧ s.deep = st.deep ∧ st.a + 1 < s.a := by
  unfold deepC at h
  split at h
  · cases h
  · rename_i hd
    have g1 : GoodC L ⟨st.a + 1, st.deep + 1⟩ := ⟨hlt, by have := hg.2; simp only; omega⟩
    cases h1 : k ⟨st.a + 1, st.deep + 1⟩ with
    | none => rw [h1] at h; cases h
    | some o =>
      rw [h1] at h
      cases o with
      | bad e s1 => cases h
      | ok x1 s1 =>
        cases h
        obtain ⟨g2, d2, h3⟩ := hk _ _ _ g1 h1
        simp only at d2 h3
        exact ⟨⟨g2.1, by have := g2.2; simp only; omega⟩, by simp only; omega, h3⟩

variable {X X' : RX} (gX : ∀ least, Goes L (X least)) (sX : ∀ least, SimK L M n δ (X least) (X' least))
include gX sX
theorem pre_goes (op lv : Int) : Goes L (preC X op lv) := by
  intro st x s hg h
  unfold preC at h
  cases h1 : X lv st with
  | none => rw [h1] at h; cases h
  | some o =>
    rw [h1] at h
    cases o with
    | bad e s1 => cases h
    | ok x1 s1 => cases h; exact gX _ _ _ _ hg h1
theorem pre_sim (op lv : Int) : SimK L M n δ (preC X op lv) (preC X' op lv) := by
  intro st x s hg h u
  unfold preC at h
  cases h1 : X lv st with
  | none => rw [h1] at h; cases h
  | some o =>
    rw [h1] at h
    cases o with
    | bad e s1 => cases h
    | ok x1 s1 =>
      cases h
      unfold preC
      rcases sX _ _ _ _ hg h1 u with q | ⟨q1, s', q⟩
      · rw [q]; exact .inl rfl
      · rw [q]; exact .inr ⟨q1, _, rfl⟩
theorem par_goes : Goes L (parC L X) := by
  intro st x s hg h
  unfold parC at h
  cases h1 : X 1 st with
  | none => rw [h1] at h; cases h
  | some o =>
    rw [h1] at h
    cases o with
    | bad e s1 => cases h
    | ok x1 s1 =>
      simp only at h
      obtain ⟨g1, d1, a1⟩ := gX _ _ _ _ hg h1
      cases h2 : mustC L ⟨#[41]⟩ s1 with
      | bad e s2 => rw [h2] at h; cases h
      | ok v s2 =>
        rw [h2] at h
        cases h
        obtain ⟨rfl, hlt, _⟩ := must_sim (δ := δ) hs (by decide) h2
        exact ⟨⟨hlt, g1.2⟩, d1, by simp only [advC]; omega⟩
theorem par_sim : SimK L M n δ (parC L X) (parC M X') := by
  intro st x s hg h u
  unfold parC at h
  cases h1 : X 1 st with
  | none => rw [h1] at h; cases h
  | some o =>
    rw [h1] at h
    cases o with
    | bad e s1 => cases h
    | ok x1 s1 =>
      simp only at h
      cases h2 : mustC L ⟨#[41]⟩ s1 with
      | bad e s2 => rw [h2] at h; cases h
      | ok v s2 =>
        rw [h2] at h
        cases h
        obtain ⟨rfl, hlt, h3⟩ := must_sim (δ := δ) hs (by decide) h2
        unfold parC
        rcases sX _ _ _ _ hg h1 (.inl hlt) with q | ⟨q1, s', q⟩
        · rw [q]; simp only; rw [h3]; exact .inl rfl
        · rw [q]; exact .inr ⟨q1, _, rfl⟩
theorem first_goes (least : Int) : Goes L (firstC L X least) := by
  intro st x s hg h
  unfold firstC at h
  split at h
  · rename_i hp
    have hu : (unC (peekC L st)).2 ≠ 0 := by rw [isPre, Bool.and_eq_true, decide_eq_true_eq, decide_eq_true_eq] at hp; exact hp.2
    have := deep_goes hs (pre_goes hs gX sX _ _) hg (unC_lt hu) h
    exact ⟨this.1, this.2.1, by omega⟩
  split at h
  · rename_i hp
    have := deep_goes hs (par_goes hs gX sX) hg (peek_lt hp (by decide)) h
    exact ⟨this.1, this.2.1, by omega⟩
  · obtain ⟨rfl, hlt, _⟩ := alone_sim (δ := δ) hs (Option.some.inj h)
    exact ⟨⟨hlt, hg.2⟩, rfl, Nat.lt_succ_self _⟩
theorem first_sim (least : Int) : SimK L M n δ (firstC L X least) (firstC M X' least) := by
  intro st x s hg h u
  have hlt : st.a < L.length := by
    have := first_goes hs gX sX least st x s hg h
    have h1 := this.1.1
    omega
  have hpk := peek_sim (δ := δ) hs hlt
  have hip : isPre M least (mvC n δ st) = isPre L least st := by unfold isPre; rw [hpk]
  unfold firstC at h ⊢
  rw [hip, hpk]
  split at h
  · rename_i hp
    rw [if_pos hp]
    exact deep_sim hs (pre_goes hs gX sX _ _) (pre_sim hs gX sX _ _) hg hlt h u
  · rename_i hp
    rw [if_neg hp]
    split at h
    · rename_i hq
      rw [if_pos hq]
      exact deep_sim hs (par_goes hs gX sX) (par_sim hs gX sX) hg hlt h u
    · rename_i hq
      rw [if_neg hq]
      obtain ⟨rfl, _, h3⟩ := alone_sim (δ := δ) hs (Option.some.inj h)
      exact .inl (congrArg some h3)
theorem loop_goes (least : Int) : ∀ (k : Nat) (has : Int) (e : Ex) (st s : RC) (x : Ex), GoodC L st → loopC L X least k has e st = some (.ok x s) → GoodC L s ∧ s.deep = st.deep ∧ st.a ≤ s.a := by
  intro k
  induction k with
  | zero => intro has e st s x _ h; cases h
  | succ k ih =>
    intro has e st s x hg h
    simp only [loopC] at h
    split at h
    · cases h; exact ⟨hg, rfl, Nat.le_refl _⟩
    · rename_i hst
      have hb : (binC (peekC L st)).2.2.2 ≠ 0 := by
        intro e0
        simp only [stopC, e0, decide_true, Bool.true_or, not_true_eq_false] at hst
      have hlt := binC_lt hb
      split at h
      · cases h
      · cases h
      · rename_i f s2 hr
        have hr2 : GoodC L s2 ∧ s2.deep = st.deep ∧ st.a ≤ s2.a := by
          split at hr
          · have := deep_goes hs (gX _) hg hlt hr
            exact ⟨this.1, this.2.1, by omega⟩
          · have := gX _ _ _ _ (show GoodC L (advC st) from ⟨hlt, hg.2⟩) hr
            refine ⟨this.1, this.2.1, ?_⟩
            have := this.2.2
            simp only [advC] at this
            omega
        have := ih _ _ _ _ _ hr2.1 h
        exact ⟨this.1, this.2.1.trans hr2.2.1, by omega⟩
theorem loop_sim (least : Int) : ∀ (k : Nat) (has : Int) (e : Ex) (st s : RC) (x : Ex), GoodC L st → loopC L X least k has e st = some (.ok x s) → Upto L M n s.a → OutM n δ x s (loopC M X' least k has e (mvC n δ st)) := by
  intro k
  induction k with
  | zero => intro has e st s x _ h; cases h
  | succ k ih =>
    intro has e st s x hg h u
    have hgo := loop_goes hs gX sX least (k + 1) has e st s x hg h
    simp only [loopC] at h ⊢
    by_cases hlt : st.a < L.length
    · rw [peek_sim hs hlt]
      split at h
      · rename_i hst; rw [if_pos hst]; cases h; exact .inl rfl
      · rename_i hst
        rw [if_neg hst]
        split at h
        · cases h
        · cases h
        · rename_i f s2 hr
          by_cases hpw : (binC (peekC L st)).2.2.2 = 15
          · rw [if_pos hpw] at hr ⊢
            have hg2 := deep_goes hs (gX _) hg hlt hr
            have hl2 := loop_goes hs gX sX _ _ _ _ _ _ _ hg2.1 h
            rcases deep_sim hs (gX _) (sX _) hg hlt hr (upto_le hs hl2.2.2 hl2.1.1 u) with q | ⟨q1, s', q⟩
            · rw [q]; exact ih _ _ _ _ _ hg2.1 h u
            · rw [q]; exact .inr ⟨q1, _, rfl⟩
          · rw [if_neg hpw] at hr ⊢
            have g' : GoodC L (advC st) := ⟨hlt, hg.2⟩
            have hg2 := gX _ _ _ _ g' hr
            have hl2 := loop_goes hs gX sX _ _ _ _ _ _ _ hg2.1 h
            have e1 : advC (mvC n δ st) = mvC n δ (advC st) := rfl
            rw [e1]
            rcases sX _ _ _ _ g' hr (upto_le hs hl2.2.2 hl2.1.1 u) with q | ⟨q1, s', q⟩
            · rw [q]; exact ih _ _ _ _ _ hg2.1 h u
            · rw [q]; exact .inr ⟨q1, _, rfl⟩
    · have e0 : st.a = L.length := Nat.le_antisymm hg.1 (by omega)
      have hpk : peekC L st = ⟨#[]⟩ := by unfold peekC; rw [List.getElem?_eq_none (by omega)]
      have hst : stopC least has (binC (peekC L st)) = true := by rw [hpk]; unfold stopC; rw [show (binC ⟨#[]⟩).2.2.2 = 0 by decide]; rfl
      rw [if_pos hst] at h
      cases h
      rcases u with u | u
      · exact absurd u hlt
      · have hst' : stopC least has (binC (peekC M (mvC n δ st))) = true := by
          have e1 : peekC M (mvC n δ st) = peekC M ⟨n + L.length, 0⟩ := by unfold peekC mvC; rw [e0]
          rw [e1]; unfold stopC; rw [show (binC (peekC M ⟨n + L.length, 0⟩)).2.2.2 = 0 from u]; rfl
        rw [if_pos hst']
        exact .inl rfl
theorem step_goes (least : Int) : Goes L (stepC L X least) := by
  intro st x s hg h
  unfold stepC at h
  cases h1 : firstC L X least st with
  | none => rw [h1] at h; cases h
  | some o =>
    rw [h1] at h
    cases o with
    | bad e s1 => cases h
    | ok e s1 =>
      obtain ⟨g1, d1, a1⟩ := first_goes hs gX sX least _ _ _ hg h1
      obtain ⟨g2, d2, a2⟩ := loop_goes hs gX sX least _ _ _ _ _ _ g1 h
      exact ⟨g2, d2.trans d1, by omega⟩
theorem step_sim (least : Int) : SimK L M n δ (stepC L X least) (stepC M X' least) := by
  intro st x s hg h u
  unfold stepC at h
  cases h1 : firstC L X least st with
  | none => rw [h1] at h; cases h
  | some o =>
    rw [h1] at h
    cases o with
    | bad e s1 => cases h
    | ok e s1 =>
      obtain ⟨g1, d1, a1⟩ := first_goes hs gX sX least _ _ _ hg h1
      have hl := loop_goes hs gX sX least _ _ _ _ _ _ g1 h
      have hlt : st.a < L.length := by have := g1.1; omega
      have hh : hasC M least (mvC n δ st) = hasC L least st := by unfold hasC isPre; rw [peek_sim hs hlt]
      unfold stepC
      rw [hh]
      rcases first_sim hs gX sX least _ _ _ hg h1 (upto_le hs hl.2.2 hl.1.1 u) with q | ⟨q1, s', q⟩
      · rw [q]; exact loop_sim hs gX sX least _ _ _ _ _ _ g1 h u
      · rw [q]; exact .inr ⟨q1, _, rfl⟩
end

theorem exprC_sim {L M : List Tok} {n δ : Nat} (hs : SameT L M n) : ∀ k least, Goes L (exprC L k least) ∧ SimK L M n δ (exprC L k least) (exprC M k least)
  | 0, _ => ⟨fun _ _ _ _ h => by (cases h), fun _ _ _ _ h => by (cases h)⟩
  | k + 1, least => ⟨step_goes (δ := δ) (M := M) (X' := exprC M k) hs (fun l => (exprC_sim (δ := δ) hs k l).1) (fun l => (exprC_sim hs k l).2) least, step_sim hs (fun l => (exprC_sim (δ := δ) hs k l).1) (fun l => (exprC_sim hs k l).2) least⟩

end Go.Proofs.Ytemfnlidinnniaa.AD

namespace Go.Proofs.Ytemfnlidinnniaa.AD
open Go.Proofs
set_option linter.unusedVariables false
set_option linter.unusedSimpArgs false
set_option linter.unusedSectionVars false
set_option maxRecDepth 100000

theorem binC_range (s : ByteArray) : (binC s).2.2.2 = 0 ∨ ((1 ≤ (binC s).1 ∧ 1 ≤ (binC s).2.2.1 ∧ (binC s).2.2.1 ≤ 10) ∧ ((binC s).2.2.2 = 15 ∨ (binC s).1 < (binC s).2.2.1)) := by
  unfold binC
  repeat' split
  all_goals simp
theorem unC_range (s : ByteArray) : 0 ≤ (unC s).1 ∧ (unC s).1 ≤ 10 := by
  unfold unC
  repeat' split
  all_goals simp
theorem sameT_self (L : List Tok) : SameT L L 0 := fun i t h => ⟨t, by rw [Nat.zero_add]; exact h, rfl, rfl⟩
theorem exprC_goes (L : List Tok) (k : Nat) (least : Int) : Goes L (exprC L k least) := (exprC_sim (δ := 0) (sameT_self L) k least).1

theorem deep_tot {α : Type} {k : RC → Option (PO α)} {st : RC} (h : st.deep ≠ 64 → ∃ o, k ⟨st.a + 1, st.deep + 1⟩ = some o) : ∃ o, deepC st k = some o := by
  unfold deepC
  split
  · exact ⟨_, rfl⟩
  · rename_i hd
    obtain ⟨o, h⟩ := h hd
    rw [h]
    cases o <;> exact ⟨_, rfl⟩

theorem exprC_tot {L : List Tok} (hL : L.length ≤ 8192) : ∀ (k : Nat) (least : Int) (st : RC), GoodC L st → 0 ≤ least → (64 - st.deep) * 12 + (11 - least).toNat < k → ∃ o, exprC L k least st = some o
  | 0, _, _, _, _, h => absurd h (Nat.not_lt_zero _)
  | k + 1, least, st, hg, h0, hm => by
    have ih := exprC_tot hL k
    have gX := exprC_goes L k
    show ∃ o, stepC L (exprC L k) least st = some o
    have below : ∀ (lv : Int) (st' : RC), GoodC L st' → 0 ≤ lv → st.deep < st'.deep → ∃ o, exprC L k lv st' = some o := fun lv st' g' hlv hd => by
      refine ih lv st' g' hlv ?_
      have := g'.2
      have : (11 - lv).toNat ≤ 11 := by omega
      have : (64 - st'.deep) * 12 + 12 ≤ (64 - st.deep) * 12 := by
        have : 64 - st'.deep + 1 ≤ 64 - st.deep := by omega
        have := Nat.mul_le_mul_right 12 this
        omega
      omega
    have first : ∃ o, firstC L (exprC L k) least st = some o := by
      unfold firstC
      split
      · rename_i hp
        have hu : (unC (peekC L st)).2 ≠ 0 := by rw [isPre, Bool.and_eq_true, decide_eq_true_eq, decide_eq_true_eq] at hp; exact hp.2
        refine deep_tot fun hd => ?_
        obtain ⟨o, h⟩ := below (unC (peekC L st)).1 ⟨st.a + 1, st.deep + 1⟩ ⟨unC_lt hu, by have := hg.2; simp only; omega⟩ (unC_range _).1 (by simp)
        unfold preC
        rw [h]
        cases o <;> exact ⟨_, rfl⟩
      split
      · rename_i hp
        refine deep_tot fun hd => ?_
        obtain ⟨o, h⟩ := below 1 ⟨st.a + 1, st.deep + 1⟩ ⟨peek_lt hp (by decide), by have := hg.2; simp only; omega⟩ (by decide) (by simp)
        unfold parC
        rw [h]
        cases o with
        | bad => exact ⟨_, rfl⟩
        | ok x s => simp only; cases mustC L ⟨#[41]⟩ s <;> exact ⟨_, rfl⟩
      · exact ⟨_, rfl⟩
    have loop : ∀ (j : Nat) (has : Int) (e : Ex) (s : RC), GoodC L s → s.deep = st.deep → L.length - s.a < j → ∃ o, loopC L (exprC L k) least j has e s = some o := by
      intro j
      induction j with
      | zero => intro has e s _ _ h; omega
      | succ j ihj =>
        intro has e s g d hj
        simp only [loopC]
        split
        · exact ⟨_, rfl⟩
        · rename_i hst
          have hb : (binC (peekC L s)).2.2.2 ≠ 0 := by
            intro e0
            simp only [stopC, e0, decide_true, Bool.true_or, not_true_eq_false] at hst
          have hlv : ¬ (binC (peekC L s)).1 < least := by
            intro e0
            simp only [stopC, e0, decide_true, Bool.true_or, Bool.or_true, not_true_eq_false] at hst
          have hlt := binC_lt hb
          have hr := binC_range (peekC L s)
          have step : ∃ o, (if (binC (peekC L s)).2.2.2 = 15 then deepC s (exprC L k (binC (peekC L s)).2.2.1) else exprC L k (binC (peekC L s)).2.2.1 (advC s)) = some o := by
            split
            · refine deep_tot fun hd => ?_
              exact below _ _ ⟨hlt, by have := g.2; simp only; omega⟩ (by omega) (by simp only; omega)
            · refine ih _ _ ⟨hlt, g.2⟩ (by omega) ?_
              simp only [advC, d]
              omega
          obtain ⟨o, hstep⟩ := step
          rw [hstep]
          cases o with
          | bad => exact ⟨_, rfl⟩
          | ok f s2 =>
            have hr2 : GoodC L s2 ∧ s2.deep = s.deep ∧ s.a < s2.a := by
              split at hstep
              · have := deep_goes (sameT_self L) (gX _) g hlt hstep
                exact ⟨this.1, this.2.1, by omega⟩
              · have := gX _ _ _ _ (show GoodC L (advC s) from ⟨hlt, g.2⟩) hstep
                refine ⟨this.1, this.2.1, ?_⟩
                have := this.2.2
                simp only [advC] at this
                omega
            exact ihj _ _ _ hr2.1 (hr2.2.1.trans d) (by omega)
    obtain ⟨o, h1⟩ := first
    unfold stepC
    rw [h1]
    cases o with
    | bad => exact ⟨_, rfl⟩
    | ok e s =>
      have := first_goes (δ := 0) (M := L) (n := 0) (X' := exprC L k) (sameT_self L) gX (fun l => (exprC_sim (sameT_self L) k l).2) least _ _ _ hg h1
      exact loop 9000 _ _ _ this.1 this.2.1 (by omega)

theorem expr_tot (s : ByteArray) : ∃ o, readC s (fun L => exprC L 800 1 ⟨0, 0⟩) = some o := by
  unfold readC
  cases hT : tokensR s with
  | err p e => exact ⟨_, rfl⟩
  | ok L =>
    obtain ⟨o, h⟩ := exprC_tot (tokensR_len hT) 800 1 ⟨0, 0⟩ ⟨Nat.zero_le _, Nat.zero_le _⟩ (by decide) (by decide)
    simp only [h]
    exact ⟨_, rfl⟩

/-! ### programs -/
def GoesL {α : Type} (L : List Tok) (k : RC → Option (PO α)) : Prop := ∀ st x s, GoodC L st → k st = some (.ok x s) → GoodC L s ∧ s.deep = st.deep ∧ st.a ≤ s.a

section
variable {L M : List Tok} {n : Nat} (hs : SameT L M n)
include hs
theorem semi_sim {c c' : Cl} {st s : RC} (h : semiC L c st = .ok c' s) : c' = c ∧ s = advC st ∧ st.a < L.length ∧ semiC M c (mvC n 0 st) = .ok c (mvC n 0 s) := by
  unfold semiC at h
  split at h
  · cases h
  · rename_i u s1 h1
    cases h
    obtain ⟨rfl, hlt, h2⟩ := must_sim (δ := 0) hs (by decide) h1
    refine ⟨rfl, rfl, hlt, ?_⟩
    unfold semiC
    rw [h2]
variable {X X' : RX} {P P' : RP} (gX : ∀ least, Goes L (X least)) (sX : ∀ least, SimK L M n 0 (X least) (X' least)) (gP : GoesL L P)
  (sP : ∀ st x s, GoodC L st → P st = some (.ok x s) → s.a < L.length → P' (mvC n 0 st) = some (.ok x (mvC n 0 s)))
include gX sX gP sP
theorem block_goes : Goes L (blockC L P) := by
  intro st x s hg h
  unfold blockC at h
  cases h1 : P st with
  | none => rw [h1] at h; cases h
  | some o =>
    rw [h1] at h
    cases o with
    | bad e s1 => cases h
    | ok x1 s1 =>
      simp only at h
      obtain ⟨g1, d1, a1⟩ := gP _ _ _ hg h1
      cases h2 : mustC L ⟨#[125]⟩ s1 with
      | bad e s2 => rw [h2] at h; cases h
      | ok v s2 =>
        rw [h2] at h
        cases h
        obtain ⟨rfl, hlt, _⟩ := must_sim (δ := 0) hs (by decide) h2
        exact ⟨⟨hlt, g1.2⟩, d1, Nat.lt_succ_of_le a1⟩
theorem block_sim : SimK L M n 0 (blockC L P) (blockC M P') := by
  intro st x s hg h u
  unfold blockC at h
  cases h1 : P st with
  | none => rw [h1] at h; cases h
  | some o =>
    rw [h1] at h
    cases o with
    | bad e s1 => cases h
    | ok x1 s1 =>
      simp only at h
      cases h2 : mustC L ⟨#[125]⟩ s1 with
      | bad e s2 => rw [h2] at h; cases h
      | ok v s2 =>
        rw [h2] at h
        cases h
        obtain ⟨rfl, hlt, h3⟩ := must_sim (δ := 0) hs (by decide) h2
        unfold blockC
        rw [sP _ _ _ hg h1 hlt]
        simp only
        rw [h3]
        exact .inl rfl
theorem clause_both {st s : RC} {c : Cl} (hg : GoodC L st) (h : clauseC L X P st = some (.ok c s)) : (GoodC L s ∧ s.deep = st.deep ∧ st.a < s.a) ∧ clauseC M X' P' (mvC n 0 st) = some (.ok c (mvC n 0 s)) := by
  have out : ∀ {α : Type} {x : α} {s : RC} {r : Option (PO α)}, OutM n 0 x s r → r = some (.ok x (mvC n 0 s)) := fun h => by
    rcases h with h | ⟨h, _⟩
    · exact h
    · exact absurd rfl h
  unfold clauseC at h
  cases h1 : X 1 st with
  | none => rw [h1] at h; cases h
  | some o =>
    rw [h1] at h
    cases o with
    | bad e s1 => cases h
    | ok t s1 =>
      simp only at h
      obtain ⟨g1, d1, a1⟩ := gX _ _ _ _ hg h1
      split at h
      · rename_i b1
        have hlt := peek_lt b1 (by decide)
        have k1 := out (sX _ _ _ _ hg h1 (.inl hlt))
        have g2 : GoodC L (advC s1) := ⟨hlt, g1.2⟩
        have p1 := peek_sim (δ := 0) hs hlt
        split at h
        · rename_i b2
          have hlt2 := peek_lt b2 (by decide)
          have p2 := peek_sim (δ := 0) hs hlt2
          cases h2 : deepC (advC s1) (blockC L P) with
          | none => rw [h2] at h; cases h
          | some o =>
            rw [h2] at h
            cases o with
            | bad e s2 => cases h
            | ok l s2 =>
              have h := Option.some.inj h
              obtain ⟨rfl, rfl, hlt3, h3⟩ := semi_sim hs h
              have gd := deep_goes hs (block_goes hs gX sX gP sP) g2 hlt2 h2
              have k2 := out (deep_sim hs (block_goes hs gX sX gP sP) (block_sim hs gX sX gP sP) g2 hlt2 h2 (.inl hlt3))
              refine ⟨⟨⟨hlt3, gd.1.2⟩, gd.2.1.trans d1, ?_⟩, ?_⟩
              · have := gd.2.2; simp only [advC] at this ⊢; omega
              · unfold clauseC
                rw [k1]
                simp only
                rw [p1, if_pos b1]
                have e1 : advC (mvC n 0 s1) = mvC n 0 (advC s1) := rfl
                rw [e1, p2, if_pos b2, k2]
                simp only
                rw [h3]
        · rename_i b2
          cases h2 : X 5 (advC s1) with
          | none => rw [h2] at h; cases h
          | some o =>
            rw [h2] at h
            cases o with
            | bad e s2 => cases h
            | ok v s2 =>
              have h := Option.some.inj h
              obtain ⟨rfl, rfl, hlt3, h3⟩ := semi_sim hs h
              have gd := gX _ _ _ _ g2 h2
              have hlt2 : (advC s1).a < L.length := by have := gd.2.2; omega
              have p2 := peek_sim (δ := 0) hs hlt2
              have k2 := out (sX _ _ _ _ g2 h2 (.inl hlt3))
              refine ⟨⟨⟨hlt3, gd.1.2⟩, gd.2.1.trans d1, ?_⟩, ?_⟩
              · have := gd.2.2; simp only [advC] at this ⊢; omega
              · unfold clauseC
                rw [k1]
                simp only
                rw [p1, if_pos b1]
                have e1 : advC (mvC n 0 s1) = mvC n 0 (advC s1) := rfl
                rw [e1, p2, if_neg b2, k2]
                simp only
                rw [h3]
      · rename_i b1
        have h := Option.some.inj h
        obtain ⟨rfl, rfl, hlt3, h3⟩ := semi_sim hs h
        have k1 := out (sX _ _ _ _ hg h1 (.inl hlt3))
        have p1 := peek_sim (δ := 0) hs hlt3
        refine ⟨⟨⟨hlt3, g1.2⟩, d1, ?_⟩, ?_⟩
        · simp only [advC]; omega
        · unfold clauseC
          rw [k1]
          simp only
          rw [p1, if_neg b1, h3]
end

theorem progLoop_more {L : List Tok} {cl : RC → Option (PO Cl)} {r : PO (List Cl)} (j : Nat) : ∀ (k : Nat) (acc : List Cl) (st : RC), progLoopC L cl k acc st = some r → progLoopC L cl (k + j) acc st = some r
  | 0, _, _, h => by cases h
  | k + 1, acc, st, h => by
    rw [Nat.add_right_comm]
    simp only [progLoopC] at h ⊢
    split at h
    · rename_i hb
      rw [if_pos hb]
      cases h1 : cl st with
      | none => rw [h1] at h; cases h
      | some o =>
        rw [h1] at h
        cases o with
        | bad e s => exact h
        | ok c s => exact progLoop_more j k _ _ h
    · rename_i hb
      rw [if_neg hb]; exact h

section
variable {L M : List Tok} {n : Nat} (hs : SameT L M n) {cl cl' : RC → Option (PO Cl)}
  (both : ∀ st c s, GoodC L st → cl st = some (.ok c s) → (GoodC L s ∧ s.deep = st.deep ∧ st.a < s.a) ∧ cl' (mvC n 0 st) = some (.ok c (mvC n 0 s)))
include hs both
theorem goes_sim {st : RC} (h : st.a < L.length) (hM : n + L.length ≤ M.length) : goesC M (mvC n 0 st) = goesC L st := by
  unfold goesC
  rw [peek_sim hs h, decide_eq_true h, decide_eq_true (show (mvC n 0 st).a < M.length by simp only [mvC]; omega)]
theorem loopP_goes : ∀ (k : Nat) (acc : List Cl) (st s : RC) (l : List Cl), GoodC L st → progLoopC L cl k acc st = some (.ok l s) → GoodC L s ∧ s.deep = st.deep ∧ st.a ≤ s.a
  | 0, _, _, _, _, _, h => by cases h
  | k + 1, acc, st, s, l, hg, h => by
    simp only [progLoopC] at h
    split at h
    · cases h1 : cl st with
      | none => rw [h1] at h; cases h
      | some o =>
        rw [h1] at h
        cases o with
        | bad e s => cases h
        | ok c s1 =>
          obtain ⟨⟨g1, d1, a1⟩, _⟩ := both _ _ _ hg h1
          obtain ⟨g2, d2, a2⟩ := loopP_goes k _ _ _ _ g1 h
          exact ⟨g2, d2.trans d1, by omega⟩
    · cases h; exact ⟨hg, rfl, Nat.le_refl _⟩
/-- A program in the midst, or at the end. -/
theorem loopP_sim (p : List Cl) (hM : n + L.length ≤ M.length) : ∀ (k : Nat) (acc : List Cl) (st s : RC) (l : List Cl), GoodC L st → progLoopC L cl k acc st = some (.ok l s) → (s.a < L.length ∨ M.length = n + L.length) → progLoopC M cl' k (p ++ acc) (mvC n 0 st) = some (.ok (p ++ l) (mvC n 0 s))
  | 0, _, _, _, _, _, h, _ => by cases h
  | k + 1, acc, st, s, l, hg, h, hu => by
    have hgo := loopP_goes hs both (k + 1) acc st s l hg h
    simp only [progLoopC] at h ⊢
    split at h
    · rename_i hb
      have hlt : st.a < L.length := by unfold goesC at hb; rw [Bool.and_eq_true, decide_eq_true_eq] at hb; exact hb.1
      rw [goes_sim hs both hlt hM, if_pos hb]
      cases h1 : cl st with
      | none => rw [h1] at h; cases h
      | some o =>
        rw [h1] at h
        cases o with
        | bad e s => cases h
        | ok c s1 =>
          obtain ⟨⟨g1, d1, a1⟩, k1⟩ := both _ _ _ hg h1
          rw [k1]
          simp only
          rw [List.append_assoc]
          exact loopP_sim p hM k _ _ _ _ g1 h hu
    · rename_i hb
      cases h
      have hf : goesC M (mvC n 0 st) = false := by
        rcases Nat.lt_or_ge st.a L.length with hlt | hge
        · rw [goes_sim hs both hlt hM]; simpa using hb
        · unfold goesC
          rw [decide_eq_false (show ¬ (mvC n 0 st).a < M.length by simp only [mvC]; omega)]
          rfl
      rw [hf]
      rfl
/-- A program with more behind it. -/
theorem loopP_front (hM : n + L.length ≤ M.length) {r : PO (List Cl)} (k2 : Nat) : ∀ (k : Nat) (acc : List Cl) (st s : RC) (l : List Cl), GoodC L st → progLoopC L cl k acc st = some (.ok l s) → s.a = L.length → progLoopC M cl' k2 l (mvC n 0 s) = some r → progLoopC M cl' (k + k2) acc (mvC n 0 st) = some r
  | 0, _, _, _, _, _, h, _, _ => by cases h
  | k + 1, acc, st, s, l, hg, h, hu, hr => by
    simp only [progLoopC] at h
    split at h
    · rename_i hb
      have hlt : st.a < L.length := by unfold goesC at hb; rw [Bool.and_eq_true, decide_eq_true_eq] at hb; exact hb.1
      cases h1 : cl st with
      | none => rw [h1] at h; cases h
      | some o =>
        rw [h1] at h
        cases o with
        | bad e s => cases h
        | ok c s1 =>
          obtain ⟨⟨g1, d1, a1⟩, k1⟩ := both _ _ _ hg h1
          rw [Nat.add_right_comm]
          simp only [progLoopC]
          rw [goes_sim hs both hlt hM, if_pos hb, k1]
          exact loopP_front hM k2 k _ _ _ _ g1 h hu hr
    · cases h
      rw [Nat.add_comm]
      exact progLoop_more _ _ _ _ hr
end

theorem progC_sim {L M : List Tok} {n : Nat} (hs : SameT L M n) (hM : n + L.length ≤ M.length) (m : Nat) : ∀ k, GoesL L (progC L m k) ∧ ∀ st x s, GoodC L st → progC L m k st = some (.ok x s) → (s.a < L.length ∨ M.length = n + L.length) → progC M m k (mvC n 0 st) = some (.ok x (mvC n 0 s))
  | 0 => ⟨fun _ _ _ _ h => by (cases h), fun _ _ _ _ h => by (cases h)⟩
  | k + 1 => by
    obtain ⟨g, s⟩ := progC_sim hs hM m k
    have both := fun st c s' hg h => clause_both (X := exprC L m) (X' := exprC M m) (P' := progC M m k) hs (fun l => (exprC_sim (δ := 0) hs m l).1) (fun l => (exprC_sim hs m l).2) g (fun st x s' hg h hlt => s st x s' hg h (.inl hlt)) (st := st) (s := s') (c := c) hg h
    exact ⟨fun st x s' hg h => loopP_goes hs both _ _ _ _ _ hg h, fun st x s' hg h hu => loopP_sim hs both [] hM _ _ _ _ _ hg h hu⟩

theorem clause_self {L : List Tok} (m k : Nat) (st : RC) (c : Cl) (s : RC) (hg : GoodC L st) (h : clauseC L (exprC L m) (progC L m k) st = some (.ok c s)) : GoodC L s ∧ s.deep = st.deep ∧ st.a < s.a :=
  (clause_both (M := L) (X' := exprC L m) (P' := progC L m k) (sameT_self L) (fun l => exprC_goes L m l) (fun l => (exprC_sim (sameT_self L) m l).2) (progC_sim (sameT_self L) (by omega) m k).1 (fun st x s' hg h hlt => (progC_sim (sameT_self L) (by omega) m k).2 st x s' hg h (.inl hlt)) hg h).1

theorem progC_tot {L : List Tok} (hL : L.length ≤ 8192) : ∀ (k : Nat) (st : RC), GoodC L st → 64 - st.deep < k → ∃ o, progC L 800 k st = some o
  | 0, _, _, h => absurd h (Nat.not_lt_zero _)
  | k + 1, st, hg, hm => by
    have ih := progC_tot hL k
    have ex : ∀ (lv : Int) (s : RC), 1 ≤ lv → GoodC L s → ∃ o, exprC L 800 lv s = some o := fun lv s hlv g => exprC_tot hL 800 lv s g (by omega) (by
      have : (64 - s.deep) * 12 ≤ 64 * 12 := Nat.mul_le_mul_right _ (by omega)
      omega)
    have clause : ∀ (s : RC), GoodC L s → s.deep = st.deep → ∃ o, clauseC L (exprC L 800) (progC L 800 k) s = some o := fun s g d => by
      unfold clauseC
      obtain ⟨o, h1⟩ := ex 1 s (by decide) g
      rw [h1]
      cases o with
      | bad => exact ⟨_, rfl⟩
      | ok t s1 =>
        obtain ⟨g1, d1, a1⟩ := exprC_goes L 800 1 _ _ _ g h1
        simp only
        split
        · rename_i b1
          have g2 : GoodC L (advC s1) := ⟨peek_lt b1 (by decide), g1.2⟩
          split
          · rename_i b2
            have hd : ∃ o, deepC (advC s1) (blockC L (progC L 800 k)) = some o := deep_tot fun hd => by
              have hd : s1.deep ≠ 64 := hd
              have := g1.2
              obtain ⟨o, h2⟩ := ih ⟨(advC s1).a + 1, (advC s1).deep + 1⟩ ⟨peek_lt b2 (by decide), by simp only [advC]; omega⟩ (by simp only [advC]; omega)
              unfold blockC
              rw [h2]
              cases o with
              | bad => exact ⟨_, rfl⟩
              | ok l s2 => simp only; cases mustC L ⟨#[125]⟩ s2 <;> exact ⟨_, rfl⟩
            obtain ⟨o, h2⟩ := hd
            rw [h2]
            cases o <;> exact ⟨_, rfl⟩
          · obtain ⟨o, h2⟩ := ex 5 (advC s1) (by decide) g2
            rw [h2]
            cases o <;> exact ⟨_, rfl⟩
        · exact ⟨_, rfl⟩
    have loop : ∀ (j : Nat) (acc : List Cl) (s : RC), GoodC L s → s.deep = st.deep → L.length - s.a < j → ∃ o, progLoopC L (clauseC L (exprC L 800) (progC L 800 k)) j acc s = some o := by
      intro j
      induction j with
      | zero => intro acc s _ _ h; omega
      | succ j ihj =>
        intro acc s g d hj
        simp only [progLoopC]
        split
        · rename_i hb
          have hlt : s.a < L.length := by unfold goesC at hb; rw [Bool.and_eq_true, decide_eq_true_eq] at hb; exact hb.1
          obtain ⟨o, h1⟩ := clause s g d
          rw [h1]
          cases o with
          | bad => exact ⟨_, rfl⟩
          | ok c s1 =>
            obtain ⟨g1, d1, a1⟩ := clause_self 800 k s c s1 g h1
            exact ihj _ _ g1 (d1.trans d) (by omega)
        · exact ⟨_, rfl⟩
    exact loop 9000 [] st hg rfl (by omega)

theorem parse_tot (s : ByteArray) : ∃ o, readC s (fun L => progC L 800 70 ⟨0, 0⟩) = some o := by
  unfold readC
  cases hT : tokensR s with
  | err p e => exact ⟨_, rfl⟩
  | ok L =>
    obtain ⟨o, h⟩ := progC_tot (tokensR_len hT) 70 ⟨0, 0⟩ ⟨Nat.zero_le _, Nat.zero_le _⟩ (by decide)
    simp only [h]
    exact ⟨_, rfl⟩

/-- Two programs, one behind the other. -/
theorem prog_join {L1 L2 M : List Tok} (s1 : SameT L1 M 0) (s2 : SameT L2 M L1.length) (hM : M.length = L1.length + L2.length) (hM2 : M.length ≤ 8192) {a b : List Cl} {t1 t2 : RC}
    (h1 : progC L1 800 70 ⟨0, 0⟩ = some (.ok a t1)) (e1 : t1.a = L1.length) (h2 : progC L2 800 70 ⟨0, 0⟩ = some (.ok b t2)) (e2 : t2.a = L2.length) : ∃ s, progC M 800 70 ⟨0, 0⟩ = some (.ok (a ++ b) s) ∧ s.a = M.length := by
  have hM1 : 0 + L1.length ≤ M.length := by omega
  have hM3 : L1.length + L2.length ≤ M.length := by omega
  have P1 := progC_sim s1 hM1 800 69
  have P2 := progC_sim s2 hM3 800 69
  have both1 := fun st c s' hg h => clause_both (X := exprC L1 800) (X' := exprC M 800) (P' := progC M 800 69) s1 (fun l => (exprC_sim (δ := 0) s1 800 l).1) (fun l => (exprC_sim s1 800 l).2) P1.1 (fun st x s' hg h hlt => P1.2 st x s' hg h (.inl hlt)) (st := st) (s := s') (c := c) hg h
  have both2 := fun st c s' hg h => clause_both (X := exprC L2 800) (X' := exprC M 800) (P' := progC M 800 69) s2 (fun l => (exprC_sim (δ := 0) s2 800 l).1) (fun l => (exprC_sim s2 800 l).2) P2.1 (fun st x s' hg h hlt => P2.2 st x s' hg h (.inl hlt)) (st := st) (s := s') (c := c) hg h
  have g0 : ∀ K : List Tok, GoodC K ⟨0, 0⟩ := fun K => ⟨Nat.zero_le _, Nat.zero_le _⟩
  have d1 := (loopP_goes s1 both1 _ _ _ _ _ (g0 _) h1).2.1
  have q2 := loopP_sim s2 both2 a hM3 9000 [] ⟨0, 0⟩ t2 b (g0 _) h2 (.inr hM)
  have est : mvC L1.length 0 ⟨0, 0⟩ = mvC 0 0 t1 := by
    show (⟨L1.length + 0, 0 + 0⟩ : RC) = ⟨0 + t1.a, 0 + t1.deep⟩
    rw [e1, d1]
    simp
  rw [est, List.append_nil] at q2
  have q1 := loopP_front s1 both1 hM1 9000 9000 [] ⟨0, 0⟩ t1 a (g0 _) h1 e1 q2
  obtain ⟨o, ho⟩ := progC_tot hM2 70 ⟨0, 0⟩ (g0 _) (by decide)
  have q3 := progLoop_more 9000 _ _ _ ho
  have e0 : mvC 0 0 ⟨0, 0⟩ = ⟨0, 0⟩ := rfl
  rw [e0] at q1
  rw [q1] at q3
  cases q3
  refine ⟨_, ho, ?_⟩
  simp only [mvC]
  omega

end Go.Proofs.Ytemfnlidinnniaa.AD

namespace Go.Proofs.Ytemfnlidinnniaa.AD
open Go.Proofs
set_option linter.unusedVariables false
set_option linter.unusedSimpArgs false
set_option linter.unusedSectionVars false
set_option maxRecDepth 100000

section
variable {L : List Tok} {Q : Ex → Prop} (leaf : ∀ t e, t ∈ L → litC t = some e → Q e) (un : ∀ (s : ByteArray) x, (unC s).2 ≠ 0 → Q x → Q (.mk (unC s).2 ⟨#[]⟩ [x])) (bin : ∀ (s : ByteArray) x y, (binC s).2.2.2 ≠ 0 → Q x → Q y → Q (.mk (binC s).2.2.2 ⟨#[]⟩ [x, y]))
include leaf un bin
theorem exprC_all : ∀ (k : Nat) (least : Int) (st : RC) (e : Ex) (s : RC), exprC L k least st = some (.ok e s) → Q e
  | 0, _, _, _, _, h => by cases h
  | k + 1, least, st, e, s, h => by
    have ih := exprC_all k
    have deep : ∀ {f : RC → Option (PO Ex)} {st : RC} {e : Ex} {s : RC}, (∀ st e s, f st = some (.ok e s) → Q e) → deepC st f = some (.ok e s) → Q e := fun {f st e s} hf h => by
      unfold deepC at h
      split at h
      · cases h
      · split at h
        · cases h
        · cases h
        · rename_i h1; cases h; exact hf _ _ _ h1
    have first : ∀ {e : Ex} {s : RC}, firstC L (exprC L k) least st = some (.ok e s) → Q e := fun {e s} h => by
      unfold firstC at h
      split at h
      · rename_i hp
        have hu : (unC (peekC L st)).2 ≠ 0 := by rw [isPre, Bool.and_eq_true, decide_eq_true_eq, decide_eq_true_eq] at hp; exact hp.2
        refine deep (fun st' e s h => ?_) h
        unfold preC at h
        split at h
        · cases h
        · cases h
        · rename_i h1; cases h; exact un _ _ hu (ih _ _ _ _ h1)
      split at h
      · refine deep (fun st' e s h => ?_) h
        unfold parC at h
        split at h
        · cases h
        · cases h
        · rename_i h1
          split at h
          · cases h
          · cases h; exact ih _ _ _ _ h1
      · have h := Option.some.inj h
        unfold aloneC at h
        split at h
        · cases h
        · rename_i t ht
          split at h
          · cases h
          · rename_i e' he; cases h; exact leaf _ _ (List.mem_of_getElem? ht) he
    have loop : ∀ (j : Nat) (has : Int) (e : Ex) (st : RC) (x : Ex) (s : RC), Q e → loopC L (exprC L k) least j has e st = some (.ok x s) → Q x := by
      intro j
      induction j with
      | zero => intro has e st x s _ h; cases h
      | succ j ihj =>
        intro has e st x s he h
        simp only [loopC] at h
        split at h
        · cases h; exact he
        · rename_i hst
          have hb : (binC (peekC L st)).2.2.2 ≠ 0 := by
            intro e0
            simp only [stopC, e0, decide_true, Bool.true_or, not_true_eq_false] at hst
          split at h
          · cases h
          · cases h
          · rename_i f s2 hr
            refine ihj _ _ _ _ _ (bin _ _ _ hb he ?_) h
            split at hr
            · exact deep (fun st' e s h => ih _ _ _ _ h) hr
            · exact ih _ _ _ _ hr
    replace h : stepC L (exprC L k) least st = some (.ok e s) := h
    unfold stepC at h
    split at h
    · cases h
    · cases h
    · rename_i h1; exact loop _ _ _ _ _ _ (first h1) h
variable {R : Cl → Prop} (c1 : ∀ t, Q t → R (.mk 1 t zeroX [])) (c2 : ∀ t v, Q t → Q v → R (.mk 2 t v [])) (c3 : ∀ t l, Q t → l.length ≤ 9000 → (∀ c, c ∈ l → R c) → R (.mk 3 t zeroX l))
include c1 c2 c3
theorem progC_all (m : Nat) : ∀ (k : Nat) (st : RC) (l : List Cl) (s : RC), progC L m k st = some (.ok l s) → l.length ≤ 9000 ∧ ∀ c, c ∈ l → R c
  | 0, _, _, _, h => by cases h
  | k + 1, st, l, s, h => by
    have ih := progC_all m k
    have ex := exprC_all leaf un bin m
    have semi : ∀ {c c' : Cl} {st s : RC}, semiC L c st = .ok c' s → R c → R c' := fun {c c' st s} h hc => by
      unfold semiC at h
      split at h
      · cases h
      · cases h; exact hc
    have clause : ∀ {c : Cl} {st s : RC}, clauseC L (exprC L m) (progC L m k) st = some (.ok c s) → R c := fun {c st s} h => by
      unfold clauseC at h
      split at h
      · cases h
      · cases h
      · rename_i t s1 h1
        have q1 := ex _ _ _ _ h1
        split at h
        · split at h
          · split at h
            · cases h
            · cases h
            · rename_i b s2 h2
              have qb : b.length ≤ 9000 ∧ ∀ c, c ∈ b → R c := by
                unfold deepC at h2
                split at h2
                · cases h2
                · split at h2
                  · cases h2
                  · cases h2
                  · rename_i h3
                    cases h2
                    unfold blockC at h3
                    split at h3
                    · cases h3
                    · cases h3
                    · rename_i h4
                      split at h3
                      · cases h3
                      · cases h3; exact ih _ _ _ h4
              exact semi (Option.some.inj h) (c3 _ _ q1 qb.1 qb.2)
          · split at h
            · cases h
            · cases h
            · rename_i h2; exact semi (Option.some.inj h) (c2 _ _ q1 (ex _ _ _ _ h2))
        · exact semi (Option.some.inj h) (c1 _ q1)
    have loop : ∀ (j : Nat) (acc : List Cl) (st : RC) (l : List Cl) (s : RC), acc.length + j ≤ 9000 → (∀ c, c ∈ acc → R c) → progLoopC L (clauseC L (exprC L m) (progC L m k)) j acc st = some (.ok l s) → l.length ≤ 9000 ∧ ∀ c, c ∈ l → R c := by
      intro j
      induction j with
      | zero => intro acc st l s _ _ h; cases h
      | succ j ihj =>
        intro acc st l s hj ha h
        simp only [progLoopC] at h
        split at h
        · split at h
          · cases h
          · cases h
          · rename_i c s1 h1
            refine ihj _ _ _ _ (by simp; omega) (fun d hd => ?_) h
            rw [List.mem_append] at hd
            rcases hd with hd | hd
            · exact ha d hd
            · rw [List.mem_singleton.1 hd]; exact clause h1
        · cases h; exact ⟨by omega, ha⟩
    exact loop 9000 [] st l s (by simp) (fun c hc => by simp at hc) h
end

/-- Few parts everywhere. -/
inductive SmX : Ex → Prop
  | mk (o : Int) (t : ByteArray) (xs : List Ex) : xs.length ≤ 2 → (∀ a, a ∈ xs → SmX a) → SmX (.mk o t xs)
inductive SmC : Cl → Prop
  | mk (k : Int) (t v : Ex) (b : List Cl) : SmX t → SmX v → b.length ≤ 9000 → (∀ a, a ∈ b → SmC a) → SmC (.mk k t v b)
theorem litC_leaf {t : Tok} {e : Ex} (h : litC t = some e) : ∃ o u, e = .mk o u [] := by
  unfold litC at h
  repeat' split at h
  all_goals first | (cases h; exact ⟨_, _, rfl⟩) | cases h
theorem exprC_sm {L : List Tok} {k : Nat} {least : Int} {st s : RC} {e : Ex} (h : exprC L k least st = some (.ok e s)) : SmX e := by
  refine exprC_all (Q := SmX) (fun t e _ h => ?_) (fun s x _ hx => ?_) (fun s x y _ hx hy => ?_) k least st e s h
  · obtain ⟨o, u, rfl⟩ := litC_leaf h
    exact .mk _ _ _ (by simp) fun a ha => by simp at ha
  · exact .mk _ _ _ (by simp) fun a ha => by rw [List.mem_singleton.1 ha]; exact hx
  · refine .mk _ _ _ (by simp) fun a ha => ?_
    simp only [List.mem_cons, List.mem_nil_iff, or_false] at ha
    rcases ha with rfl | rfl
    · exact hx
    · exact hy
theorem zeroX_sm : SmX zeroX := .mk _ _ _ (by simp) fun a ha => by simp at ha
theorem progC_sm {L : List Tok} {m k : Nat} {st s : RC} {l : List Cl} (h : progC L m k st = some (.ok l s)) : l.length ≤ 9000 ∧ ∀ c, c ∈ l → SmC c := by
  refine progC_all (L := L) (Q := SmX) (R := SmC) (fun t e _ h => ?_) (fun s x _ hx => ?_) (fun s x y _ hx hy => ?_) (fun t h => ?_) (fun t v h1 h2 => ?_) (fun t l h1 h2 h3 => ?_) m k st l s h
  · obtain ⟨o, u, rfl⟩ := litC_leaf h
    exact .mk _ _ _ (by simp) fun a ha => by simp at ha
  · exact .mk _ _ _ (by simp) fun a ha => by rw [List.mem_singleton.1 ha]; exact hx
  · refine .mk _ _ _ (by simp) fun a ha => ?_
    simp only [List.mem_cons, List.mem_nil_iff, or_false] at ha
    rcases ha with rfl | rfl
    · exact hx
    · exact hy
  · exact .mk _ _ _ _ h zeroX_sm (by simp) fun a ha => by simp at ha
  · exact .mk _ _ _ _ h1 h2 (by simp) fun a ha => by simp at ha
  · exact .mk _ _ _ _ h1 zeroX_sm h2 h3

theorem SameX_spec (e : Ex) : SmX e → pureF Try.prog 16 [.p (enc e), .p (enc e)] (.p (.bool true)) := by
  induction e using Ex.ind with
  | h o t xs ih =>
    intro hsm
    obtain ⟨_, _, _, hlen, hall⟩ := hsm
    refine pureF_of f16_ok fun H => ?_
    have hel : (encs xs).length = xs.length := by rw [encs_map, List.length_map]
    (conv => whnf)
    refine splitB_f (by simp) ?_
    (conv => whnf)
    refine splitB_f (by simp) ?_
    (conv => whnf)
    refine splitB_f (by simp) ?_
    (conv => whnf)
    intro R hR
    have key : ∀ (rest : List Ex) (i : Nat), xs.drop i = rest → R [(2, .ref (.l 0) 0), (3, .ref (.l 1) 0), (5, .p (.int .i64 i))] H
        [.cells [.p (.int .u8 o), .p (.str t), .p (.list 3 (encs xs))], .cells [.p (.int .u8 o), .p (.str t), .p (.list 3 (encs xs))]] := by
      intro rest
      induction rest with
      | nil =>
        intro i hd
        have hi := drop_nil hd
        refine hR _ _ _ ?_
        (conv => whnf)
        refine splitB_f (decide_eq_false (by omega)) ?_
        (conv => whnf)
        exact ⟨rfl, rfl⟩
      | cons a r ihr =>
        intro i hd
        obtain ⟨hg, hd', hil⟩ := drop_cons hd
        have hg' : (encs xs)[i]? = some (enc a) := by rw [encs_map, List.getElem?_map, hg]; rfl
        have hc := ih a (List.mem_of_getElem? hg) (hall a (List.mem_of_getElem? hg))
        obtain ⟨oa, ta, xa⟩ := a
        refine hR _ _ _ ?_
        (conv => whnf)
        refine splitB_t (decide_eq_true (by omega)) ?_
        (conv => whnf)
        refine ⟨rfl, enc (.mk oa ta xa), ⟨by omega, by rw [Int.toNat_natCast]; exact hg'⟩, ?_⟩
        (conv => whnf)
        refine ⟨rfl, enc (.mk oa ta xa), ⟨by omega, by rw [Int.toNat_natCast]; exact hg'⟩, ?_⟩
        (conv => whnf)
        refine CallD.pureF hc rfl ?_
        (conv => whnf)
        refine splitB_f rfl ?_
        (conv => whnf)
        rw [IntWalk.i64_in _ (by omega)]
        exact ihr (i + 1) hd'
    exact key xs 0 rfl

theorem SameC_self (l : List Cl) (hl : l.length ≤ 9000) (hsm : ∀ c, c ∈ l → SmC c) (ih : ∀ k t v b, Cl.mk k t v b ∈ l → pureF Try.prog 14 [.p (.list 8 (encCs b)), .p (.list 8 (encCs b))] (.p (.bool true))) :
    pureF Try.prog 14 [.p (.list 8 (encCs l)), .p (.list 8 (encCs l))] (.p (.bool true)) := by
  refine pureF_of f14_ok fun H => ?_
  have hel := encCs_len l
  (conv => whnf)
  refine splitB_f (by simp) ?_
  (conv => whnf)
  intro R hR
  have key : ∀ (rest : List Cl) (i : Nat), l.drop i = rest → R [(0, .p (.list 8 (encCs l))), (1, .p (.list 8 (encCs l))), (5, .p (.int .i64 i))] H [] := by
    intro rest
    induction rest with
    | nil =>
      intro i hd
      have hi := drop_nil hd
      refine hR _ _ _ ?_
      (conv => whnf)
      refine splitB_f (decide_eq_false (by omega)) ?_
      (conv => whnf)
      exact ⟨rfl, rfl⟩
    | cons a r ihr =>
      intro i hd
      obtain ⟨hg, hd', hil⟩ := drop_cons hd
      have hg' := encCs_get hg
      obtain ⟨k, ⟨o1, t1, x1⟩, ⟨o2, t2, x2⟩, b⟩ := a
      obtain ⟨_, _, _, _, s1, s2, _, _⟩ := hsm _ (List.mem_of_getElem? hg)
      have c1 := SameX_spec _ s1
      have c2 := SameX_spec _ s2
      have c3 := ih _ _ _ _ (List.mem_of_getElem? hg)
      refine hR _ _ _ ?_
      (conv => whnf)
      refine splitB_t (decide_eq_true (by omega)) ?_
      repeat' ((conv => whnf); first | refine splitB_t rfl ?_ | refine splitB_f rfl ?_ | refine splitB_f (by simp) ?_ | refine ⟨rfl, encC (.mk k (.mk o1 t1 x1) (.mk o2 t2 x2) b), ⟨by omega, by rw [Int.toNat_natCast]; exact hg'⟩, ?_⟩ | refine CallD.pureF c1 rfl ?_ | refine CallD.pureF c2 rfl ?_ | refine CallD.pureF c3 rfl ?_ | done)
      (conv => whnf)
      rw [IntWalk.i64_in _ (by omega)]
      exact ihr (i + 1) hd'
  exact key l 0 rfl

theorem SameC_one (c : Cl) : SmC c → ∀ k t v b, c = .mk k t v b → pureF Try.prog 14 [.p (.list 8 (encCs b)), .p (.list 8 (encCs b))] (.p (.bool true)) := by
  induction c using Cl.ind with
  | h k t v b ih =>
    intro hsm k' t' v' b' e
    cases e
    obtain ⟨_, _, _, _, _, _, hl, hall⟩ := hsm
    exact SameC_self b hl hall fun k2 t2 v2 b2 hm => ih _ hm (hall _ hm) _ _ _ _ rfl
theorem SameCs_spec (l : List Cl) (hl : l.length ≤ 9000) (hsm : ∀ c, c ∈ l → SmC c) : pureF Try.prog 14 [.p (.list 8 (encCs l)), .p (.list 8 (encCs l))] (.p (.bool true)) :=
  SameC_self l hl hsm fun k t v b hm => SameC_one _ (hsm _ hm) _ _ _ _ rfl

/-- What goes well, and what Parse then answers. -/
theorem parse_ok {s : ByteArray} {l : List Cl} (h : readC s (fun L => progC L 800 70 ⟨0, 0⟩) = some (.ok l)) : ∃ L t, tokensR s = .ok L ∧ progC L 800 70 ⟨0, 0⟩ = some (.ok l t) ∧ t.a = L.length := by
  unfold readC at h
  cases hT : tokensR s with
  | err p e => rw [hT] at h; cases h
  | ok L =>
    rw [hT] at h
    simp only at h
    obtain ⟨oo, hx, ho⟩ := Option.map_eq_some_iff.1 h
    cases oo with
    | bad e st => cases ho
    | ok x st =>
      unfold endC at ho
      simp only at ho
      split at ho
      · cases ho
      · rename_i hlt
        cases ho
        have := ((progC_sim (sameT_self L) (by omega) 800 70).1 _ _ _ ⟨Nat.zero_le _, Nat.zero_le _⟩ hx).1.1
        exact ⟨L, st, rfl, hx, by omega⟩
theorem parse_of {s : ByteArray} {L : List Tok} {l : List Cl} {t : RC} (h1 : tokensR s = .ok L) (h2 : progC L 800 70 ⟨0, 0⟩ = some (.ok l t)) (h3 : t.a = L.length) : readC s (fun L => progC L 800 70 ⟨0, 0⟩) = some (.ok l) := by
  unfold readC
  rw [h1]
  simp only [h2]
  show some (endC L s.size (.ok l t)) = _
  unfold endC
  simp only
  rw [if_neg (by omega)]

end Go.Proofs.Ytemfnlidinnniaa.AD

namespace Go.Proofs.Ytemfnlidinnniaa.AD
open Go.Proofs
set_option linter.unusedVariables false
set_option linter.unusedSimpArgs false
set_option linter.unusedSectionVars false
set_option maxRecDepth 100000

theorem digF_one : ∀ (m v : Nat) (l bs : List UInt8) (n : Nat), digF m v l = .ok bs n → bs.length ≤ 1
  | 0, v, l, bs, n, h => by
    simp only [digF] at h
    split at h
    · cases h
    · cases h; simp
  | m + 1, v, [], bs, n, h => by cases h
  | m + 1, v, c :: r, bs, n, h => by
    simp only [digF] at h
    split at h
    · cases h
    · exact digF_one m _ _ _ _ h
theorem pieceP_one {l bs : List UInt8} {n : Nat} (h : pieceP l = .ok bs n) : bs.length ≤ 1 := by
  cases l with
  | nil => cases h
  | cons c r =>
    simp only [pieceP] at h
    repeat' split at h
    all_goals first
      | (cases h; simp; done)
      | exact digF_one _ _ _ _ _ h
theorem strP_tok : ∀ (f : Nat) (l : List UInt8) (i : Nat) (b : List UInt8) (k : Int) (t : ByteArray) (len : Nat), strP f l i b = .tok k t len → k = 4 ∧ t.size ≤ b.length + l.length
  | 0, l, i, b, k, t, len, h => by cases h
  | f + 1, [], i, b, k, t, len, h => by cases h
  | f + 1, c :: r, i, b, k, t, len, h => by
    simp only [strP] at h
    simp only [List.length_cons]
    split at h
    · cases h
    split at h
    · cases h
      refine ⟨rfl, ?_⟩
      rw [ba_size, ofL_data]; omega
    split at h
    · split at h
      · rename_i bs n hp
        have p1 := pieceP_one hp
        obtain ⟨h1, h2⟩ := strP_tok f _ _ _ k t len h
        rw [List.length_drop, List.length_append] at h2
        exact ⟨h1, by omega⟩
      · cases h
      · cases h
    · obtain ⟨h1, h2⟩ := strP_tok f r _ _ k t len h
      rw [List.length_append] at h2
      simp only [List.length_cons, List.length_nil] at h2
      exact ⟨h1, by omega⟩

theorem take_all (p : UInt8 → Bool) : ∀ l : List UInt8, (l.take (whileL p l)).all p = true
  | [] => rfl
  | c :: r => by
    simp only [whileL]
    cases hc : p c with
    | true => simp only [if_true, List.take_succ_cons, List.all_cons, hc, Bool.true_and]; exact take_all p r
    | false => simp
theorem whileL_pos {p : UInt8 → Bool} {c : UInt8} {r : List UInt8} (h : p c = true) : whileL p (c :: r) = whileL p r + 1 := by simp [whileL, h]

/-- What the kinds of tokens say of their texts. -/
structure TokOk (k : Int) (t : ByteArray) : Prop where
  size : t.size ≤ 65536
  name : k = 1 → nameB t = true
  num : k = 2 → digitsB t = true
  dec : k = 3 → decB t = true

theorem digits_of {l : List UInt8} (h1 : l.all dig = true) (h2 : l ≠ []) : digitsB (ofL l) = true := by
  unfold digitsB
  rw [ofL_data, Bool.and_eq_true]
  refine ⟨h1, ?_⟩
  unfold neS
  rw [ba_toList, ba_toList, ofL_data]
  cases l with
  | nil => exact absurd rfl h2
  | cons => rfl

theorem dec_of {A B : List UInt8} (hA : A.all dig = true) (hA0 : A ≠ []) (hB : B.all dig = true) (hB0 : B ≠ []) : decB (ofL (A ++ 46 :: B)) = true := by
  have hi : Lib.indexByte (A ++ 46 :: B) 46 = A.length := by
    rw [indexByte_at 46 (A ++ 46 :: B) (46 :: B) A.length List.drop_left fun k hk e => by
      rw [List.getElem?_append_left hk, List.getElem?_eq_getElem hk] at e
      have := List.all_eq_true.1 hA _ (List.getElem_mem hk)
      rw [Option.some.inj e] at this
      exact absurd this (by decide)]
    simp [Lib.indexByte]
  unfold decB cutAt
  rw [ofL_data, hi, if_pos (by omega)]
  simp only [ext_ofL, ofL_data]
  have e1 : ((A ++ 46 :: B).take (A.length : Int).toNat).drop 0 = A := by simp
  have e2 : ((A ++ 46 :: B).take (ofL (A ++ 46 :: B)).size).drop ((A.length : Int) + 1).toNat = B := by
    have h1 : (ofL (A ++ 46 :: B)).size = (A ++ 46 :: B).length := by rw [ba_size, ofL_data]
    have h2 : ((A.length : Int) + 1).toNat = A.length + 1 := by omega
    rw [h1, List.take_length, h2, ← List.drop_drop, List.drop_left]
    rfl
  rw [e1, e2, digits_of hA hA0, digits_of hB hB0]
  rfl

theorem nextP_ok {c : UInt8} {r : List UInt8} {k : Int} {t : ByteArray} {len : Nat} (h : nextP (c :: r) = .tok k t len) (hs : (c :: r).length ≤ 65536) : TokOk k t := by
  simp only [nextP] at h
  split at h
  · rename_i hl
    cases h
    have hnam : nam c = true := by show (letterB c.toNat || digitB c.toNat) = true; rw [show letterB c.toNat = true from hl]; rfl
    refine ⟨by rw [ba_size, ofL_data, List.length_take]; omega, fun _ => ?_, fun e => by (cases e), fun e => by (cases e)⟩
    unfold nameB
    rw [ofL_data, whileL_pos hnam, List.take_succ_cons]
    simp only
    rw [show letterB c.toNat = true from hl, Bool.true_and]
    exact take_all nam r
  split at h
  · rename_i hl hd
    have hn := whileL_pos (r := r) (show dig c = true from hd)
    generalize hq : numL (c :: r) = q at h
    unfold numL at hq
    generalize hw : whileL dig (c :: r) = n at hq hn
    have hle : n ≤ (c :: r).length := by rw [← hw]; exact whileL_le _ _
    have hall : ((c :: r).take n).all dig = true := by rw [← hw]; exact take_all _ _
    have hne : (c :: r).take n ≠ [] := by rw [hn]; simp
    cases h
    have hsz : (ofL ((c :: r).take q.2.1)).size ≤ 65536 := by rw [ba_size, ofL_data, List.length_take]; omega
    split at hq
    · rename_i a d rest hdr
      split at hq
      · rename_i hb
        obtain ⟨rfl, hd2⟩ := hb
        subst hq
        refine ⟨hsz, fun e => by (cases e), fun e => by (cases e), fun _ => ?_⟩
        have hdr2 : (c :: r).drop (n + 1) = d :: rest := by rw [← List.drop_drop, hdr]; rfl
        simp only
        rw [hdr2, whileL_pos (show dig d = true from hd2)]
        have e : (c :: r).take (n + 1 + (whileL dig rest + 1)) = (c :: r).take n ++ 46 :: (d :: rest).take (whileL dig rest + 1) := by
          have hl : ((c :: r).take n).length = n := by rw [List.length_take]; omega
          conv => lhs; rw [← List.take_append_drop n (c :: r), hdr]
          rw [List.take_append, hl, List.take_of_length_le (by omega)]
          rw [show n + 1 + (whileL dig rest + 1) - n = whileL dig rest + 1 + 1 by omega, List.take_succ_cons]
        rw [e]
        refine dec_of hall hne ?_ (by simp)
        rw [← whileL_pos (show dig d = true from hd2)]
        exact take_all _ _
      · split at hq
        · subst hq
          exact ⟨hsz, fun e => by (cases e), fun e => by (cases e), fun e => by (cases e)⟩
        · subst hq
          exact ⟨hsz, fun e => by (cases e), fun _ => digits_of hall hne, fun e => by (cases e)⟩
    · subst hq
      exact ⟨hsz, fun e => by (cases e), fun _ => digits_of hall hne, fun e => by (cases e)⟩
  split at h
  · have := strP_tok _ _ _ _ _ _ _ h
    obtain ⟨rfl, hz⟩ := this
    simp only [List.length_cons, List.length_nil] at hz hs
    exact ⟨by omega, fun e => by (cases e), fun e => by (cases e), fun e => by (cases e)⟩
  split at h
  · cases h
    exact ⟨by rw [ba_size, ofL_data, List.length_take]; omega, fun e => by (cases e), fun e => by (cases e), fun e => by (cases e)⟩
  · cases h

theorem tokens_ok {s : ByteArray} {L : List Tok} (h : tokensR s = .ok L) : ∀ t, t ∈ L → TokOk t.k t.t := fun t ht => by
  have hs := (tokensR_tile h).1
  obtain ⟨c, w, h1, h2, h3, h4⟩ := (toks_alone s.data.toList _ _ _ (tokS_of h) (by rw [Nat.zero_add]) t ht).1
  refine nextP_ok h2 ?_
  rw [← ba_size] at h4
  omega

theorem eqS_of (s t : ByteArray) : eqS s t = eqL s t := eqL_toList s t
theorem eqS_nil : eqS ⟨#[]⟩ ⟨#[]⟩ = true := by rw [eqS_of]; decide
theorem textOk_nil {o : Int} (h2 : o ≠ 2) (h5 : o ≠ 5) (h7 : o ≠ 7) : textOk o ⟨#[]⟩ = true := by
  unfold textOk
  split
  · rfl
  · exact eqS_nil
theorem mayE_leaf {o : Int} (h2 : o ≠ 2) (h5 : o ≠ 5) (h7 : o ≠ 7) (ha : arityI o = 0) : mayE (.mk o ⟨#[]⟩ []) = true := by
  simp only [mayE, mayL, ha, textOk_nil h2 h5 h7]; rfl
theorem zeroE_zero : zeroE zeroX = true := by simp only [zeroE, eqS_nil]; rfl
theorem litC_may {t : Tok} {e : Ex} (ht : TokOk t.k t.t) (h : litC t = some e) : mayE e = true ∧ Fits e := by
  have fit : ∀ (o : Int) (u : ByteArray), 0 ≤ o → u.size ≤ 65536 → Fits (.mk o u []) := fun o u h1 h2 => .mk _ _ _ h1 (by omega) (by simp) fun a ha => by simp at ha
  have hz := ht.size
  unfold litC at h
  split at h
  · cases h; exact ⟨rfl, fit _ _ (by decide) hz⟩
  split at h
  · rename_i k2; cases h
    refine ⟨?_, fit _ _ (by decide) hz⟩
    simp only [mayE, textOk, ht.num k2, mayL]; rfl
  split at h
  · rename_i k3; cases h
    refine ⟨?_, fit _ _ (by decide) hz⟩
    simp only [mayE, textOk, ht.dec k3, mayL]; rfl
  split at h
  · rename_i k1
    have h := Option.some.inj h
    split at h
    · cases h; exact ⟨mayE_leaf (by decide) (by decide) (by decide) (by decide), fit _ _ (by decide) (by decide)⟩
    split at h
    · cases h; exact ⟨mayE_leaf (by decide) (by decide) (by decide) (by decide), fit _ _ (by decide) (by decide)⟩
    · rename_i n1 n2
      cases h
      refine ⟨?_, fit _ _ (by decide) hz⟩
      simp only [mayE, textOk, ht.name k1, mayL, eqS_of, Bool.not_eq_true] at n1 n2 ⊢
      rw [n1, n2]; rfl
  · cases h

theorem un_may {s : ByteArray} {x : Ex} (h : (unC s).2 ≠ 0) (hx : mayE x = true ∧ Fits x) : mayE (.mk (unC s).2 ⟨#[]⟩ [x]) = true ∧ Fits (.mk (unC s).2 ⟨#[]⟩ [x]) := by
  have hv : (unC s).2 = 25 ∨ (unC s).2 = 9 ∨ (unC s).2 = 6 ∨ (unC s).2 = 8 ∨ (unC s).2 = 3 := by
    revert h
    unfold unC
    repeat' split
    all_goals simp
  generalize (unC s).2 = o at hv
  refine ⟨?_, .mk _ _ _ (by omega) (by decide) (by simp) fun a ha => by rw [List.mem_singleton.1 ha]; exact hx.2⟩
  have ha : arityI o = 1 := by rcases hv with rfl | rfl | rfl | rfl | rfl <;> decide
  simp only [mayE, mayL, hx.1, ha, textOk_nil (o := o) (by omega) (by omega) (by omega)]
  rfl
theorem relIx_lt {s : ByteArray} {i : Nat} (h : relIx s = some i) : i < 7 := by
  unfold relIx at h
  have := List.findIdx?_eq_some_iff_getElem.1 h
  obtain ⟨h1, _⟩ := this
  exact h1
theorem bin_may {s : ByteArray} {x y : Ex} (h : (binC s).2.2.2 ≠ 0) (hx : mayE x = true ∧ Fits x) (hy : mayE y = true ∧ Fits y) : mayE (.mk (binC s).2.2.2 ⟨#[]⟩ [x, y]) = true ∧ Fits (.mk (binC s).2.2.2 ⟨#[]⟩ [x, y]) := by
  have hv : (binC s).2.2.2 = 24 ∨ (binC s).2.2.2 = 23 ∨ (16 ≤ (binC s).2.2.2 ∧ (binC s).2.2.2 ≤ 22) ∨ (10 ≤ (binC s).2.2.2 ∧ (binC s).2.2.2 ≤ 15) ∨ (binC s).2.2.2 = 4 := by
    revert h
    unfold binC
    split
    · simp
    split
    · simp
    split
    · rename_i i hi
      have := relIx_lt hi
      simp only
      omega
    · repeat' split
      all_goals simp
  generalize (binC s).2.2.2 = o at hv
  have ha : arityI o = 2 := by unfold arityI; rw [if_neg (by omega), if_neg (by omega), if_pos (by omega)]
  refine ⟨?_, .mk _ _ _ (by omega) (by decide) (by simp) fun a ha => ?_⟩
  · simp only [mayE, mayL, hx.1, hy.1, ha, textOk_nil (o := o) (by omega) (by omega) (by omega)]
    rfl
  · simp only [List.mem_cons, List.mem_nil_iff, or_false] at ha
    rcases ha with rfl | rfl
    · exact hx.2
    · exact hy.2

theorem zeroX_fit : Fits zeroX := .mk _ _ _ (by decide) (by decide) (by simp) fun a ha => by simp at ha
theorem checkL_all : ∀ l : List Cl, (∀ c, c ∈ l → checkC c = true) → checkL l = true
  | [], _ => rfl
  | a :: r, h => by rw [checkL, h a (by simp), checkL_all r fun c hc => h c (by simp [hc])]; rfl
theorem progC_may {s : ByteArray} {L : List Tok} (hT : tokensR s = .ok L) {m k : Nat} {st t : RC} {l : List Cl} (h : progC L m k st = some (.ok l t)) : checkL l = true ∧ l.length ≤ 9000 ∧ ∀ c, c ∈ l → FitsC c := by
  have := progC_all (L := L) (Q := fun e => mayE e = true ∧ Fits e) (R := fun c => checkC c = true ∧ FitsC c) (fun t e ht h => litC_may (tokens_ok hT t ht) h) (fun s x h hx => un_may h hx) (fun s x y h hx hy => bin_may h hx hy)
    (fun t h => ⟨by simp only [checkC, h.1, zeroE_zero]; rfl, .mk _ _ _ _ (by decide) h.2 zeroX_fit (by simp) fun a ha => by simp at ha⟩)
    (fun t v h1 h2 => ⟨by simp only [checkC, h1.1, h2.1]; rfl, .mk _ _ _ _ (by decide) h1.2 h2.2 (by simp) fun a ha => by simp at ha⟩)
    (fun t l h1 h2 h3 => ⟨by
      have hl := checkL_all l fun c hc => (h3 c hc).1
      simp only [checkC, h1.1, hl, zeroE_zero]; rfl, .mk _ _ _ _ (by decide) h1.2 zeroX_fit (by omega) fun a ha => (h3 a ha).2⟩) m k st l t h
  exact ⟨checkL_all l fun c hc => (this.2 c hc).1, this.1, fun c hc => (this.2 c hc).2⟩

end Go.Proofs.Ytemfnlidinnniaa.AD

namespace Go.Proofs.Ytemfnlidinnniaa.AD
open Go.Proofs
set_option linter.unusedVariables false
set_option linter.unusedSimpArgs false
set_option linter.unusedSectionVars false
set_option maxRecDepth 100000

mutual
def eqX : Ex → Ex → Bool
  | .mk o t xs, .mk p u ys => decide (o = p) && (t.data.toList == u.data.toList && eqXs xs ys)
def eqXs : List Ex → List Ex → Bool
  | [], [] => true
  | a :: r, b :: s => eqX a b && eqXs r s
  | _, _ => false
end
theorem ba_of_toList {t u : ByteArray} (h : t.data.toList = u.data.toList) : t = u := by
  cases t; cases u; simp only [ByteArray.mk.injEq]; exact Array.toList_inj.1 h
theorem eqX_eq (a : Ex) : ∀ b, eqX a b = true → a = b := by
  induction a using Ex.ind with
  | h o t xs ih =>
    intro b h
    obtain ⟨p, u, ys⟩ := b
    simp only [eqX, Bool.and_eq_true, decide_eq_true_eq, beq_iff_eq] at h
    obtain ⟨rfl, h2, h3⟩ := h
    have e2 := ba_of_toList h2
    subst e2
    have : ∀ (xs ys : List Ex), (∀ a, a ∈ xs → ∀ b, eqX a b = true → a = b) → eqXs xs ys = true → xs = ys := by
      intro xs
      induction xs with
      | nil => intro ys _ h; cases ys with
        | nil => rfl
        | cons => cases h
      | cons a r ihr =>
        intro ys hm h
        cases ys with
        | nil => cases h
        | cons b s =>
          simp only [eqXs, Bool.and_eq_true] at h
          rw [hm a (by simp) b h.1, ihr s (fun c hc => hm c (by simp [hc])) h.2]
    rw [this xs ys ih h3]
def eqRO : Option (RO Ex) → RO Ex → Bool
  | some (.ok x), .ok y => eqX x y
  | some (.err p e), .err q f => decide (p = q) && decide (e = f)
  | _, _ => false
theorem eqRO_eq {a : Option (RO Ex)} {b : RO Ex} (h : eqRO a b = true) : a = some b := by
  unfold eqRO at h
  split at h
  · rw [eqX_eq _ _ h]
  · simp only [Bool.and_eq_true, decide_eq_true_eq] at h; rw [h.1, h.2]
  · cases h

def exprTop (s : ByteArray) : Option (RO Ex) := readC s fun L => exprC L 70 1 ⟨0, 0⟩

def linesL : List (Int × ByteArray × Int) := [(0, ⟨#[124, 124]⟩, 24), (1, ⟨#[38, 38]⟩, 23), (3, ⟨#[61, 61]⟩, 16), (3, ⟨#[33, 61]⟩, 17), (3, ⟨#[60]⟩, 18), (3, ⟨#[62]⟩, 19), (3, ⟨#[60, 61]⟩, 20), (3, ⟨#[62, 61]⟩, 21), (3, ⟨#[126, 61]⟩, 22),
  (4, ⟨#[43]⟩, 10), (4, ⟨#[45]⟩, 11), (4, ⟨#[46]⟩, 4), (5, ⟨#[42]⟩, 12), (5, ⟨#[47]⟩, 13), (5, ⟨#[37]⟩, 14), (7, ⟨#[94]⟩, 15)]
def lv (k : Nat) : Int × ByteArray × Int := linesL.getD k (0, ⟨#[]⟩, 0)
def nmE (c : UInt8) : Ex := .mk 2 ⟨#[c]⟩ []
def txtC (p q : Int × ByteArray × Int) : ByteArray := (((⟨#[97]⟩ ++ p.2.1) ++ ⟨#[98]⟩) ++ q.2.1) ++ ⟨#[99]⟩
def wantC (p q : Int × ByteArray × Int) : RO Ex :=
  if p.1 = 3 ∧ q.1 = 3 then .err (2 + (p.2.1.size : Int)) 150
  else if q.1 > p.1 ∨ (p.1 = 7 ∧ q.1 = 7) then .ok (.mk p.2.2 ⟨#[]⟩ [nmE 97, .mk q.2.2 ⟨#[]⟩ [nmE 98, nmE 99]])
  else .ok (.mk q.2.2 ⟨#[]⟩ [.mk p.2.2 ⟨#[]⟩ [nmE 97, nmE 98], nmE 99])
theorem lines_all : (linesL.all fun p => linesL.all fun q => eqRO (exprTop (txtC p q)) (wantC p q)) = true := by decide +kernel
theorem lines_at {i j : Nat} (hi : i < 16) (hj : j < 16) : exprTop (txtC (lv i) (lv j)) = some (wantC (lv i) (lv j)) := by
  have mem : ∀ k, k < 16 → lv k ∈ linesL := fun k hk => by
    rw [lv, List.getD_eq_getElem?_getD, List.getElem?_eq_getElem (show k < linesL.length from hk)]
    exact List.getElem_mem _
  have h := List.all_eq_true.1 (List.all_eq_true.1 lines_all _ (mem i hi)) _ (mem j hj)
  exact eqRO_eq h
def worksC : RO Ex := .ok (.mk 11 ⟨#[]⟩ [.mk 11 ⟨#[]⟩ [.mk 5 ⟨#[49]⟩ [], .mk 5 ⟨#[50]⟩ []], .mk 12 ⟨#[]⟩ [.mk 5 ⟨#[51]⟩ [], nmE 97]])
theorem works_at : exprTop ⟨#[49, 32, 45, 32, 50, 32, 45, 32, 51, 32, 42, 32, 97]⟩ = some worksC := eqRO_eq (by decide +kernel)

theorem lv_size {k : Nat} (hk : k < 16) : (lv k).2.1.size ≤ 2 := by
  have mem : lv k ∈ linesL := by
    rw [lv, List.getD_eq_getElem?_getD, List.getElem?_eq_getElem (show k < linesL.length from hk)]
    exact List.getElem_mem _
  exact of_decide_eq_true (List.all_eq_true.1 (show (linesL.all fun p => decide (p.2.1.size ≤ 2)) = true from by decide) _ mem)
theorem worksC_spec : pureF Try.prog 10 [] (.p (.bool true)) := by
  refine pureF_of f10_ok fun H => ?_
  have he := Expr_spec _ (by decide) 70 works_at
  (conv => whnf)
  refine CallVC.pureF he rfl ?_
  repeat' ((conv => whnf); first | refine splitB_t rfl ?_ | refine splitB_f rfl ?_ | refine ⟨_, ⟨by decide, rfl⟩, ?_⟩ | refine ⟨rfl, _, ⟨by decide, rfl⟩, ?_⟩ | done)
  (conv => whnf)
  exact ⟨congrArg (fun b => AV.p (PV.bool b)) (beq_self_eq_true _), rfl⟩

theorem tmod16 (n : Int) : -16 < n.tmod 16 ∧ n.tmod 16 < 16 := by
  rcases Int.lt_or_le n 0 with h | h
  · have e : n = -(-n) := by omega
    rw [e, Int.neg_tmod, Int.tmod_eq_emod_of_nonneg (by omega)]
    omega
  · rw [Int.tmod_eq_emod_of_nonneg h]
    omega
theorem pick_spec (n : Int) (hn : -9223372036854775808 ≤ n ∧ n ≤ 9223372036854775807) : ∃ k : Nat, k < 16 ∧ pureF Try.prog 26 [.p (.int .i64 n), .p (.int .i64 16)] (.p (.int .i64 k)) := by
  refine ⟨(Int.tmod n 16 + if Int.tmod n 16 < 0 then 16 else 0).toNat, ?_, pureF_of f26_ok fun H => ?_⟩
  · have := tmod16 n
    split <;> omega
  have hb := tmod16 n
  (conv => whnf)
  refine splitB_f rfl ?_
  (conv => whnf)
  refine ⟨by decide, ?_⟩
  (conv => whnf)
  refine splitB_dec (fun h => ?_) (fun h => ?_)
  · rw [if_pos h]
    (conv => whnf)
    rw [IntWalk.i64_in _ (by omega)]
    exact ⟨congrArg (fun z => AV.p (PV.int .i64 z)) (by omega), rfl⟩
  · rw [if_neg h]
    (conv => whnf)
    exact ⟨congrArg (fun z => AV.p (PV.int .i64 z)) (by omega), rfl⟩

theorem level_spec (n : Int) (hn : -9223372036854775808 ≤ n ∧ n ≤ 9223372036854775807) : ∃ k : Nat, k < 16 ∧ pureF Try.prog 8 [.p (.int .i64 n)] (.p (.tup [.int .i64 (lv k).1, .str (lv k).2.1, .int .u8 (lv k).2.2])) := by
  obtain ⟨k, hk, hp⟩ := pick_spec n hn
  refine ⟨k, hk, pureF_of f8_ok fun H => ?_⟩
  (conv => whnf)
  refine CallVC.pureF hp rfl ?_
  have hk' : k = 0 ∨ k = 1 ∨ k = 2 ∨ k = 3 ∨ k = 4 ∨ k = 5 ∨ k = 6 ∨ k = 7 ∨ k = 8 ∨ k = 9 ∨ k = 10 ∨ k = 11 ∨ k = 12 ∨ k = 13 ∨ k = 14 ∨ k = 15 := by omega
  rcases hk' with rfl | rfl | rfl | rfl | rfl | rfl | rfl | rfl | rfl | rfl | rfl | rfl | rfl | rfl | rfl | rfl
  all_goals
    (conv => whnf)
    refine ⟨rfl, _, ⟨by decide, rfl⟩, ?_⟩
    (conv => whnf)
    refine ⟨rfl, _, ⟨by decide, rfl⟩, ?_⟩
    (conv => whnf)
    refine ⟨rfl, _, ⟨by decide, rfl⟩, ?_⟩
    (conv => whnf)
    exact ⟨rfl, rfl⟩

theorem twoC_spec (a b : ByteArray) (k : Int) : pureF Try.prog 11 [.p (enc (.mk k ⟨#[]⟩ [.mk 2 a [], .mk 2 b []])), .p (.int .u8 k), .p (.str a), .p (.str b)] (.p (.bool true)) := by
  refine pureF_of f11_ok fun H => ?_
  (conv => whnf)
  have s1 : ∀ x : ByteArray, (x.toList == x.toList) = true := fun x => beq_self_eq_true _
  repeat' ((conv => whnf); first | refine splitB_t rfl ?_ | refine splitB_t (beq_self_eq_true _) ?_ | refine splitB_f rfl ?_ | refine ⟨_, ⟨by decide, rfl⟩, ?_⟩ | refine ⟨rfl, _, ⟨by decide, rfl⟩, ?_⟩ | done)
  (conv => whnf)
  exact ⟨congrArg (fun b => AV.p (PV.bool b)) (beq_self_eq_true _), rfl⟩

theorem CondsLines_spec (m n : Int) (hm : -9223372036854775808 ≤ m ∧ m ≤ 9223372036854775807) (hn : -9223372036854775808 ≤ n ∧ n ≤ 9223372036854775807) : pureF Try.prog 3 [.p (.int .i64 m), .p (.int .i64 n)] (.p (.bool true)) := by
  obtain ⟨i, hi, h1⟩ := level_spec m hm
  obtain ⟨j, hj, h2⟩ := level_spec n hn
  refine pureF_of f3_ok fun H => ?_
  have z1 := lv_size hi
  have z2 := lv_size hj
  have hl := lines_at hi hj
  obtain ⟨l1, s1, o1, e1⟩ : ∃ a b c, lv i = (a, b, c) := ⟨_, _, _, rfl⟩
  obtain ⟨l2, s2, o2, e2⟩ : ∃ a b c, lv j = (a, b, c) := ⟨_, _, _, rfl⟩
  rw [e1] at h1 z1 hl
  rw [e2] at h2 z2 hl
  simp only at h1 z1 h2 z2
  clear e1 e2
  have hsz : ((txtC (l1, s1, o1) (l2, s2, o2)).size : Int) ≤ 9223372036854775807 := by
    simp only [txtC, ByteArray.size_append, show (ByteArray.mk #[97]).size = 1 from rfl, show (ByteArray.mk #[98]).size = 1 from rfl, show (ByteArray.mk #[99]).size = 1 from rfl]; omega
  have he := Expr_spec (txtC (l1, s1, o1) (l2, s2, o2)) hsz 70 hl
  have hw := worksC_spec
  have hone : ∀ c : UInt8, (ByteArray.mk #[c]).size = 1 := fun c => rfl
  (conv => whnf)
  refine CallVC.pureF h1 rfl ?_
  (conv => whnf)
  refine CallVC.pureF h2 rfl ?_
  (conv => whnf)
  refine ⟨by rw [hone]; omega, ?_⟩
  (conv => whnf)
  refine ⟨by rw [ByteArray.size_append, hone, hone]; omega, ?_⟩
  (conv => whnf)
  refine ⟨by rw [ByteArray.size_append, ByteArray.size_append, hone, hone]; omega, ?_⟩
  (conv => whnf)
  refine ⟨by rw [ByteArray.size_append, ByteArray.size_append, ByteArray.size_append, hone, hone, hone]; omega, ?_⟩
  (conv => whnf)
  refine CallVC.pureF he rfl ?_
  clear he h1 h2 hsz hl
  by_cases hr : l1 = 3 ∧ l2 = 3
  · obtain ⟨rfl, rfl⟩ := hr
    rw [show wantC (3, s1, o1) (3, s2, o2) = .err (2 + (s1.size : Int)) 150 from if_pos ⟨rfl, rfl⟩]
    repeat' ((conv => whnf); first | refine splitB_t rfl ?_ | refine splitB_f rfl ?_ | refine CallVC.pureF hw rfl ?_ | done)
    (conv => whnf)
    refine splitB_t (beq_iff_eq.2 (IntWalk.i64_in _ (by omega)).symm) ?_
    (conv => whnf)
    refine CallVC.pureF hw rfl ?_
    (conv => whnf)
    exact ⟨rfl, rfl⟩
  -- not both relations
  have hrs : ∀ b : Bool, wantC (l1, s1, o1) (l2, s2, o2) = if l2 > l1 ∨ (l1 = 7 ∧ l2 = 7) then .ok (.mk o1 ⟨#[]⟩ [nmE 97, .mk o2 ⟨#[]⟩ [nmE 98, nmE 99]]) else .ok (.mk o2 ⟨#[]⟩ [.mk o1 ⟨#[]⟩ [nmE 97, nmE 98], nmE 99]) := fun _ => if_neg hr
  have ht1 := twoC_spec ⟨#[98]⟩ ⟨#[99]⟩ o2
  have ht2 := twoC_spec ⟨#[97]⟩ ⟨#[98]⟩ o1
  by_cases hd : l2 > l1 ∨ (l1 = 7 ∧ l2 = 7)
  · rw [hrs true, if_pos hd]
    (conv => whnf)
    repeat' ((conv => whnf); first | refine splitB_t rfl ?_ | refine splitB_f rfl ?_ | refine splitB_t (beq_self_eq_true _) ?_ | refine CallVC.pureF hw rfl ?_ | refine CallVC.pureF ht1 rfl ?_ | refine ⟨_, ⟨by decide, rfl⟩, ?_⟩ | refine ⟨rfl, _, ⟨by decide, rfl⟩, ?_⟩ | refine splitB_eq (fun h => ?_) (fun h => ?_) | refine splitB_dec (fun h => ?_) (fun h => ?_) | exact ⟨rfl, rfl⟩ | (exfalso; omega) | done)
  · rw [hrs true, if_neg hd]
    (conv => whnf)
    repeat' ((conv => whnf); first | refine splitB_t rfl ?_ | refine splitB_f rfl ?_ | refine splitB_t (beq_self_eq_true _) ?_ | refine CallVC.pureF hw rfl ?_ | refine CallVC.pureF ht2 rfl ?_ | refine ⟨_, ⟨by decide, rfl⟩, ?_⟩ | refine ⟨rfl, _, ⟨by decide, rfl⟩, ?_⟩ | refine splitB_eq (fun h => ?_) (fun h => ?_) | refine splitB_dec (fun h => ?_) (fun h => ?_) | exact ⟨rfl, rfl⟩ | (exfalso; omega) | done)

end Go.Proofs.Ytemfnlidinnniaa.AD

namespace Go.Proofs.Ytemfnlidinnniaa.AD
open Go.Proofs
set_option linter.unusedVariables false
set_option linter.unusedSimpArgs false
set_option linter.unusedSectionVars false
set_option maxRecDepth 100000

theorem parse_err {s : ByteArray} {p e : Int} (h : readC s (fun L => progC L 800 70 ⟨0, 0⟩) = some (.err p e)) : e ≠ 0 := by
  unfold readC at h
  cases hT : tokensR s with
  | err q f =>
    rw [hT] at h
    cases h
    have := (tokensR_err hT).1
    omega
  | ok L =>
    rw [hT] at h
    obtain ⟨oo, hx, ho⟩ := Option.map_eq_some_iff.1 h
    have hb := progC_bad _ _ _ hx
    cases oo with
    | bad e st =>
      cases ho
      have hb : e = 150 ∨ e = 3 := hb
      omega
    | ok x st =>
      unfold endC at ho
      simp only at ho
      split at ho
      · cases ho; decide
      · cases ho

theorem sameT_front (L K : List Tok) : SameT L (L ++ K) 0 := fun i t h => ⟨t, by rw [Nat.zero_add, List.getElem?_append_left (List.getElem?_eq_some_iff.1 h).1]; exact h, rfl, rfl⟩
theorem sameT_back (L K : List Tok) (d : Nat) : SameT K (L ++ K.map (shT d)) L.length := fun i t h => ⟨shT d t, by rw [List.getElem?_append_right (by omega), Nat.add_sub_cancel_left, List.getElem?_map, h]; rfl, rfl, rfl⟩

theorem rows_join {a b : ByteArray} {l m : List Cl} {L K : List Tok} (ha : readC a (fun L => progC L 800 70 ⟨0, 0⟩) = some (.ok l)) (hb : readC b (fun L => progC L 800 70 ⟨0, 0⟩) = some (.ok m)) (hL : tokensR a = .ok L) (hK : tokensR b = .ok K) (sa : a.size ≤ 32767) (sb : b.size ≤ 32767) (h1 : L.length ≤ 4096) (h2 : K.length ≤ 4096)
    (s : ByteArray) (hs : s.data.toList = a.data.toList ++ 10 :: b.data.toList) : readC s (fun L => progC L 800 70 ⟨0, 0⟩) = some (.ok (l ++ m)) := by
  obtain ⟨L', t1, e1, p1, q1⟩ := parse_ok ha
  obtain ⟨K', t2, e2, p2, q2⟩ := parse_ok hb
  rw [hL] at e1; cases e1
  rw [hK] at e2; cases e2
  have hj := tokens_join hL hK sa sb h1 h2 s hs
  have hlen : (L ++ K.map (shT (a.size + 1))).length = L.length + K.length := by rw [List.length_append, List.length_map]
  obtain ⟨t, p3, q3⟩ := prog_join (sameT_front L _) (sameT_back L K _) hlen (by omega) p1 q1 p2 q2
  exact parse_of hj p3 q3

theorem CondsRows_spec (a b : ByteArray) (ha : (a.size : Int) ≤ 9223372036854775807) (hb : (b.size : Int) ≤ 9223372036854775807) : pureF Try.prog 4 [.p (.str a), .p (.str b)] (.p (.bool true)) := by
  refine pureF_of f4_ok fun H => ?_
  obtain ⟨o1, h1⟩ := parse_tot a
  obtain ⟨o2, h2⟩ := parse_tot b
  have c1 := Parse_spec a ha 800 70 h1
  have c2 := Parse_spec b hb 800 70 h2
  have hw := worksC_spec
  (conv => whnf)
  refine CallVC.pureF c1 rfl ?_
  cases o1 with
  | err p e =>
    have he := parse_err h1
    (conv => whnf)
    refine CallVC.pureF c2 rfl ?_
    cases o2 with
    | err q f =>
      repeat' ((conv => whnf); first | refine splitB_t (bne_iff_ne.2 he) ?_ | refine splitB_t rfl ?_ | refine splitB_f rfl ?_ | refine CallVC.pureF hw rfl ?_ | exact ⟨rfl, rfl⟩ | done)
    | ok m =>
      repeat' ((conv => whnf); first | refine splitB_t (bne_iff_ne.2 he) ?_ | refine splitB_t rfl ?_ | refine splitB_f rfl ?_ | refine CallVC.pureF hw rfl ?_ | exact ⟨rfl, rfl⟩ | done)
  | ok l =>
    (conv => whnf)
    refine CallVC.pureF c2 rfl ?_
    cases o2 with
    | err q f =>
      have he := parse_err h2
      repeat' ((conv => whnf); first | refine splitB_t (bne_iff_ne.2 he) ?_ | refine splitB_t rfl ?_ | refine splitB_f rfl ?_ | refine CallVC.pureF hw rfl ?_ | exact ⟨rfl, rfl⟩ | done)
    | ok m =>
      obtain ⟨L, t1, e1, p1, q1⟩ := parse_ok h1
      obtain ⟨K, t2, e2, p2, q2⟩ := parse_ok h2
      have k1 := Tokens_spec a ha
      have k2 := Tokens_spec b hb
      rw [e1] at k1
      rw [e2] at k2
      have hLl : (L.map tkP).length = L.length := List.length_map _
      have hKl : (K.map tkP).length = K.length := List.length_map _
      repeat' ((conv => whnf); first | refine splitB_t rfl ?_ | refine splitB_f rfl ?_ | done)
      (conv => whnf)
      refine splitB_dec (fun s1 => ?_) (fun s1 => ?_)
      · repeat' ((conv => whnf); first | refine splitB_t rfl ?_ | refine splitB_f rfl ?_ | refine CallVC.pureF hw rfl ?_ | exact ⟨rfl, rfl⟩ | done)
      (conv => whnf)
      refine splitB_dec (fun s2 => ?_) (fun s2 => ?_)
      · repeat' ((conv => whnf); first | refine splitB_t rfl ?_ | refine splitB_f rfl ?_ | refine CallVC.pureF hw rfl ?_ | exact ⟨rfl, rfl⟩ | done)
      (conv => whnf)
      refine CallVC.pureF k1 rfl ?_
      (conv => whnf)
      refine CallVC.pureF k2 rfl ?_
      (conv => whnf)
      refine splitB_dec (fun s3 => ?_) (fun s3 => ?_)
      · repeat' ((conv => whnf); first | refine splitB_t rfl ?_ | refine splitB_f rfl ?_ | refine CallVC.pureF hw rfl ?_ | exact ⟨rfl, rfl⟩ | done)
      (conv => whnf)
      refine splitB_dec (fun s4 => ?_) (fun s4 => ?_)
      · repeat' ((conv => whnf); first | refine splitB_t rfl ?_ | refine splitB_f rfl ?_ | refine CallVC.pureF hw rfl ?_ | exact ⟨rfl, rfl⟩ | done)
      (conv => whnf)
      have h10 : (ByteArray.mk #[10]).size = 1 := rfl
      have hjoin := rows_join h1 h2 e1 e2 (by omega) (by omega) (by omega) (by omega) ((a ++ ⟨#[10]⟩) ++ b) (by simp [ByteArray.data_append])
      have c3 := Parse_spec ((a ++ ⟨#[10]⟩) ++ b) (by rw [ByteArray.size_append, ByteArray.size_append, h10]; omega) 800 70 hjoin
      have sm1 := progC_sm p1
      have sm2 := progC_sm p2
      have g1 := SameCs_spec l sm1.1 sm1.2
      have g2 := SameCs_spec m sm2.1 sm2.2
      have n1 := encCs_len l
      have n2 := encCs_len m
      have n3 := encCs_len (l ++ m)
      have n4 : (l ++ m).length = l.length + m.length := List.length_append
      refine ⟨by rw [h10]; omega, ?_⟩
      (conv => whnf)
      refine ⟨by rw [ByteArray.size_append, h10]; omega, ?_⟩
      (conv => whnf)
      refine CallVC.pureF c3 rfl ?_
      repeat' ((conv => whnf); first | refine splitB_t rfl ?_ | refine splitB_f rfl ?_ | done)
      (conv => whnf)
      refine splitB_f (bne_eq_false_iff_eq.2 (by rw [IntWalk.i64_in _ (by omega)]; omega)) ?_
      repeat' ((conv => whnf); first | refine splitB_t rfl ?_ | refine splitB_f rfl ?_ | done)
      (conv => whnf)
      have r1 : List.take (Int.toNat ((encCs l).length : Int)) (encCs (l ++ m)) = encCs l := by
        rw [Int.toNat_natCast, encCs_app]; exact List.take_left
      have r2 : List.drop (Int.toNat ((encCs l).length : Int)) (encCs (l ++ m)) = encCs m := by
        rw [Int.toNat_natCast, encCs_app]; exact List.drop_left
      refine ⟨rfl, ?_⟩
      (conv => whnf)
      refine ⟨by omega, ?_⟩
      rw [r1]
      (conv => whnf)
      refine CallVC.pureF g1 rfl ?_
      (conv => whnf)
      refine splitB_t rfl ?_
      (conv => whnf)
      refine ⟨rfl, ?_⟩
      (conv => whnf)
      refine ⟨by omega, ?_⟩
      rw [r2]
      (conv => whnf)
      refine CallVC.pureF g2 rfl ?_
      repeat' ((conv => whnf); first | refine splitB_t rfl ?_ | refine splitB_f rfl ?_ | refine CallVC.pureF hw rfl ?_ | exact ⟨rfl, rfl⟩ | done)

end Go.Proofs.Ytemfnlidinnniaa.AD

namespace Go.Proofs.Ytemfnlidinnniaa.AD
open Go.Proofs Go.RowKit
set_option linter.unusedVariables false

theorem bsize : (Try.prog.info? 79).map (·.size) = some 2 := by kernel_rfl
theorem blies : liesAt Try.prog Try.prog.depth 79 (2 / Try.prog.cellsOf 79) 0 79 1 = true := by kernel_rfl
theorem binfo : (Try.prog.info? 5).map (fun i => (i.zero, i.size, i.bytes)) = some (some (.int .u8 0), 1, 1) := by kernel_rfl
theorem bcells : Try.prog.cellsOf 5 = 1 := by kernel_rfl

set_option maxHeartbeats 1000000 in
set_option maxRecDepth 100000 in
theorem bld_used (b : Nat) (w : World) (h0 : w.cell? ⟨b, 0, none⟩ = some (.pointer (some ⟨b, 0, none⟩))) :
    Calls Try.prog 57 #[.pointer (some ⟨b, 0, none⟩)] w fun e w' => e = .returned (.tuple #[]) ∧ w' = w := by
  obtain ⟨j, hj, _⟩ := Option.map_eq_some_iff.1 bsize
  go_enter Try.func57, Try.ntmps57
  go_wp2
  rw [Lib.run_neq_ptr_same w _ Try.underlying77 hj]
  go_wp2
  go_end0
  exact ⟨rfl, rfl⟩

set_option maxHeartbeats 1000000 in
set_option maxRecDepth 100000 in
theorem bld_fresh (b : Nat) (w : World) (h0 : w.cell? ⟨b, 0, none⟩ = some (.pointer none)) (hsh : w.shape? b = some (79, 2)) (hfz : w.frozen? ⟨b, 0, none⟩ = false) :
    Calls Try.prog 57 #[.pointer (some ⟨b, 0, none⟩)] w fun e w' => e = .returned (.tuple #[]) ∧ w' = w.setCell ⟨b, 0, none⟩ (.pointer (some ⟨b, 0, none⟩)) := by
  obtain ⟨j, hj, hjs⟩ := Option.map_eq_some_iff.1 bsize
  go_enter Try.func57, Try.ntmps57
  go_wp2
  rw [Lib.run_to_unsafe w ⟨b, 0, none⟩ Try.underlying77 Try.underlying131 hj (by rw [hjs]; decide) hsh (Nat.zero_lt_succ 1)]
  simp only [Result.andThen]
  rw [Oper.upon_value]
  go_wp2
  rw [run_callFunc_extern Try.func79 (by kernel_rfl) (by kernel_rfl) (by kernel_rfl) (e := Extern.AbiNoEscape.same) (by kernel_rfl)]
  rw [Lib.run_noEscape]
  simp only [Result.andThen]
  rw [Oper.upon_value]
  go_wp2
  rw [Lib.run_from_unsafe w ⟨b, 0, none⟩ Try.underlying131 Try.underlying77 hj hsh blies]
  simp only [Result.andThen]
  rw [Oper.upon_value]
  go_wp2
  go_end0
  exact ⟨rfl, rfl⟩

theorem bld_check (B b : Nat) (bs : List Value) (w : World) (h : Lib.IsBuilder 79 5 B b bs w) :
    Calls Try.prog 57 #[.pointer (some ⟨b, 0, none⟩)] w fun e w' => e = .returned (.tuple #[]) ∧ (Lib.BuilderAt 79 5 B b (.pointer (some ⟨b, 0, none⟩)) bs w' ∧ Below B w w') := by
  rcases h with h | h
  · refine (bld_fresh b w h.cell0 h.shape h.frozen0).mono ?_
    rintro e w' ⟨rfl, rfl⟩
    exact ⟨rfl, h.used _, (Below.refl B w).setCell (p := ⟨b, 0, none⟩) h.1 _⟩
  · refine (bld_used b w h.cell0).mono ?_
    rintro e w' ⟨rfl, rfl⟩
    exact ⟨rfl, h, Below.refl B _⟩

set_option maxHeartbeats 2000000 in
set_option maxRecDepth 100000 in
theorem bld_byte (B b : Nat) (bs : List Value) (c : Int) (w : World) (h : Lib.IsBuilder 79 5 B b bs w) (hlen : bs.length + 1 ≤ 140737488355328) (hBw : B ≤ w.heap.size) :
    Calls Try.prog 33 #[.pointer (some ⟨b, 0, none⟩), .int .u8 c] w fun e w' => e = .returned .nilIface ∧ (Lib.BuilderAt 79 5 B b (.pointer (some ⟨b, 0, none⟩)) (bs ++ [.int .u8 c]) w' ∧ Below B w w') := by
  obtain ⟨i0, hi, hz0, hz1, hz2⟩ := info_parts binfo
  go_enter Try.func33, Try.ntmps33
  go_wp2_with (go_at_call 57; refine (bld_check B b bs _ h).mono ?_)
  rintro e w1 ⟨rfl, h1, hb1⟩
  obtain ⟨hB, v, hbk, hown, hne⟩ := h1
  have c0 : w1.cell? ⟨b, 0, none⟩ = some (.pointer (some ⟨b, 0, none⟩)) := by rw [Lib.cell_of_heap hbk]; rfl
  have c1 : w1.cell? ⟨b, 1, none⟩ = some v := by rw [Lib.cell_of_heap hbk]; rfl
  go_wp2_with (at_builtin; refine wpList_append_own _ rfl _ _ 59 rfl B 5 i0 (.int .u8 0) 1 1 Try.underlying59 hi hz0 hz1 hz2 rfl (by decide) _ _ _ rfl (hown.alloc _) ⟨w1.heap.size, 0, none⟩ 1 1 [.int .u8 c] rfl rfl ?c1 ?c2 ?c3 ?c4 ?c5 ?_)
  case c1 =>
    intro j u hj
    match j, hj with
    | 0, hj => simp at hj; subst hj; simp [Addr.add]
  case c2 => intro u hu; simp at hu; subst hu; rfl
  case c3 => unfold maxLen; omega
  case c4 => omega
  case c5 => have := hb1.size; simp; omega
  intro v' w2 hown' hgrow _
  have hlt : b < w1.heap.size := by
    rcases Nat.lt_or_ge b w1.heap.size with h' | h'
    · exact h'
    · simp [Array.getElem?_eq_none h'] at hbk
  have hb2 : w2.heap[b]? = some (.cells #[.pointer (some ⟨b, 0, none⟩), v] 79 (0, 0)) := by
    rw [hgrow.block b (by simp; omega) (fun e => hne e.symm), Lib.alloc_old w1 _ b hlt]
    exact hbk
  have d0 : w2.cell? ⟨b, 0, none⟩ = some (.pointer (some ⟨b, 0, none⟩)) := by rw [Lib.cell_of_heap hb2]; rfl
  have d1 : w2.cell? ⟨b, 1, none⟩ = some v := by rw [Lib.cell_of_heap hb2]; rfl
  have f1 : w2.frozen? ⟨b, 1, none⟩ = false := Lib.frozen_of_heap hb2 1
  obtain ⟨g, cap, rfl⟩ : ∃ g cap, v' = .slice (some ⟨g, 0, none⟩) (bs.length + 1) cap := by
    rcases hown'.2 with ⟨_, h0⟩ | ⟨g, cap, cur, hv, _⟩
    · omega
    · exact ⟨g, cap, hv⟩
  go_wp2
  go_ret
  refine ⟨rfl, ?_, ?_⟩
  · exact Lib.BuilderAt.put (T := 79) (e := 5) hB hb2 (bs' := bs ++ [.int .u8 c]) (by simpa using hown') (by decide)
  · exact ((hb1.alloc (by have := hb1.size; omega) _).grown hgrow (by have := hb1.size; simp; omega) (fun k hk => (hown.lt k hk).1)).setCell (p := ⟨b, 1, none⟩) hB _

set_option maxHeartbeats 2000000 in
set_option maxRecDepth 100000 in
theorem bld_text (B b : Nat) (bs : List Value) (s : ByteArray) (w : World) (h : Lib.IsBuilder 79 5 B b bs w) (hlen : bs.length + s.size ≤ 140737488355328) (hBw : B ≤ w.heap.size) :
    Calls Try.prog 34 #[.pointer (some ⟨b, 0, none⟩), .string s] w fun e w' => e = .returned (.tuple #[.int .i64 s.size, .nilIface]) ∧ (Lib.BuilderAt 79 5 B b (.pointer (some ⟨b, 0, none⟩)) (bs ++ Lib.strCells s) w' ∧ Below B w w') := by
  obtain ⟨i0, hi, hz0, hz1, hz2⟩ := info_parts binfo
  go_enter Try.func34, Try.ntmps34
  go_wp2_with (go_at_call 57; refine (bld_check B b bs _ h).mono ?_)
  rintro e w1 ⟨rfl, h1, hb1⟩
  obtain ⟨hB, v, hbk, hown, hne⟩ := h1
  have c0 : w1.cell? ⟨b, 0, none⟩ = some (.pointer (some ⟨b, 0, none⟩)) := by rw [Lib.cell_of_heap hbk]; rfl
  have c1 : w1.cell? ⟨b, 1, none⟩ = some v := by rw [Lib.cell_of_heap hbk]; rfl
  go_wp2_with (at_builtin; refine Lib.wpList_append_own_string _ rfl _ _ 59 9 rfl B 5 i0 Try.underlying59 Try.underlying9 hi hz0 hz1 hz2 _ _ _ rfl hown s rfl ?c3 ?c4 ?c5 ?_)
  case c3 => unfold maxLen; omega
  case c4 => omega
  case c5 => have := hb1.size; omega
  intro v' w2 hown' hgrow _
  have hlt : b < w1.heap.size := by
    rcases Nat.lt_or_ge b w1.heap.size with h' | h'
    · exact h'
    · simp [Array.getElem?_eq_none h'] at hbk
  have hb2 : w2.heap[b]? = some (.cells #[.pointer (some ⟨b, 0, none⟩), v] 79 (0, 0)) := by
    rw [hgrow.block b hlt (fun e => hne e.symm)]
    exact hbk
  have d0 : w2.cell? ⟨b, 0, none⟩ = some (.pointer (some ⟨b, 0, none⟩)) := by rw [Lib.cell_of_heap hb2]; rfl
  have d1 : w2.cell? ⟨b, 1, none⟩ = some v := by rw [Lib.cell_of_heap hb2]; rfl
  have f1 : w2.frozen? ⟨b, 1, none⟩ = false := Lib.frozen_of_heap hb2 1
  obtain ⟨ao, n', cap, rfl⟩ : ∃ ao n' cap, v' = .slice ao n' cap := by
    rcases hown'.2 with ⟨hv, _⟩ | ⟨g, cap, cur, hv, _⟩
    · exact ⟨_, _, _, hv⟩
    · exact ⟨_, _, _, hv⟩
  go_wp2
  go_ret2
  refine ⟨rfl, ?_, ?_⟩
  · exact Lib.BuilderAt.put (T := 79) (e := 5) hB hb2 (bs' := bs ++ Lib.strCells s) (by simpa [Lib.strCells_length] using hown') (by decide)
  · exact (hb1.grown hgrow (by have := hb1.size; omega) (fun k hk => (hown.lt k hk).1)).setCell (p := ⟨b, 1, none⟩) hB _

set_option maxHeartbeats 1000000 in
set_option maxRecDepth 100000 in
theorem bld_string (B b : Nat) (l : List UInt8) (w : World) (h : Lib.IsBuilder 79 5 B b (Lib.byteCells l) w) (h0 : l ≠ []) :
    Calls Try.prog 35 #[.pointer (some ⟨b, 0, none⟩)] w fun e w' => e = .returned (.string ⟨l.toArray⟩) ∧ Below B w w' := by
  obtain ⟨p, hB, v, hbk, hown, hne⟩ : ∃ p, Lib.BuilderAt 79 5 B b p (Lib.byteCells l) w := by
    rcases h with h | h
    · exact ⟨_, h⟩
    · exact ⟨_, h⟩
  have hl0 : l.length ≠ 0 := by simpa using h0
  rw [Lib.byteCells_length] at hown
  obtain ⟨g, cap, cur, rfl, hbg, hg, hnc, hcm, hcs, htake⟩ : ∃ g cap cur, v = .slice (some ⟨g, 0, none⟩) l.length cap ∧ B ≤ g ∧ w.heap[g]? = some (.cells cur 5 (0, 0)) ∧ l.length ≤ cap ∧ cap ≤ maxLen ∧ cur.size = cap * 1 ∧ _ := by
    rcases hown.2 with ⟨_, hz⟩ | ⟨g, cap, cur, hv, r⟩
    · exact absurd hz hl0
    · exact ⟨g, cap, cur, hv, r⟩
  have c1 : w.drew.cell? ⟨b, 1, none⟩ = some (.slice (some ⟨g, 0, none⟩) l.length cap) := by
    have : w.drew.heap[b]? = some (.cells #[p, .slice (some ⟨g, 0, none⟩) l.length cap] 79 (0, 0)) := hbk
    rw [Lib.cell_of_heap this]; rfl
  have hSD : (Builtin.unsafeSliceData_ #[59] 113 #[.slice (some ⟨g, 0, none⟩) l.length cap]).run Try.prog w.drew = .ok (.pointer (some ⟨g, 0, none⟩)) w.drew :=
    Lib.run_unsafeSliceData_row _ _ _ _ _ _ (by omega)
  have hUS : (Builtin.unsafeString_ #[113, 3] 9 #[.pointer (some ⟨g, 0, none⟩), .int .i64 l.length]).run Try.prog w.drew = .ok (.string ⟨l.toArray⟩) (w.drew.freeze ⟨g, 0, none⟩ l.length) := by
    refine Lib.run_unsafeString_row w.drew 113 3 9 5 Try.underlying113 bcells g cur.size (by have hg' : w.drew.heap[g]? = some (.cells cur 5 (0, 0)) := hg; simp [World.shape?, hg']) l h0 (by omega) (by unfold maxLen at hcm; omega) ?_
    intro j x hx
    have := hown.cells (g := g) rfl j (.int .u8 x.toNat) (by simp [Lib.byteCells, hx])
    exact this
  have mixed : Try.prog.follows .mixedOrders = true := by kernel_rfl
  go_enter Try.func35, Try.ntmps35
  go_wp2
  go_region_o
  all_goals (go_wp2; go_ret; exact ⟨rfl, Lib.below_freeze (Below.drew (Below.refl B w)) (p := ⟨g, 0, none⟩) hbg _⟩)

end Go.Proofs.Ytemfnlidinnniaa.AD

namespace Go.Proofs.Ytemfnlidinnniaa.AD
open Go.Proofs Go.RowKit
set_option linter.unusedVariables false

/-- How one byte is written. -/
def quoteB (c : UInt8) : List UInt8 :=
  if c = 34 ∨ c = 92 then [92, c] else if c = 10 then [92, 110] else if c = 9 then [92, 116] else if c = 13 then [92, 114]
  else if c < 32 ∨ 126 < c then [92, (48 : UInt8) + (c >>> (6 : UInt8)), (48 : UInt8) + ((c >>> (3 : UInt8)) &&& 7), (48 : UInt8) + (c &&& 7)] else [c]
def quoteL (l : List UInt8) : List UInt8 := 34 :: (l.flatMap quoteB ++ [34])

theorem quoteB_len (c : UInt8) : (quoteB c).length ≤ 4 := by
  unfold quoteB
  repeat' split
  all_goals simp
theorem quoteBs_len : ∀ l : List UInt8, (l.flatMap quoteB).length ≤ 4 * l.length
  | [] => by simp
  | c :: r => by
    have := quoteB_len c
    have := quoteBs_len r
    simp only [List.flatMap_cons, List.length_append, List.length_cons]
    omega

def octV3 (c : UInt8) : List Value := [.int .u8 ((48 + (c.toNat : Int) / 64) % 256), .int .u8 ((48 + bits BinOp.and IntKind.u8 ((c.toNat : Int) / 8) 7) % 256), .int .u8 ((48 + bits BinOp.and IntKind.u8 (c.toNat : Int) 7) % 256)]
theorem oct_fin : ∀ n : Fin 256, ((48 + ((UInt8.ofNat n.1).toNat : Int) / 64) % 256 = (((48 : UInt8) + (UInt8.ofNat n.1 >>> (6 : UInt8))).toNat : Int)) ∧
    ((48 + bits BinOp.and IntKind.u8 (((UInt8.ofNat n.1).toNat : Int) / 8) 7) % 256 = (((48 : UInt8) + ((UInt8.ofNat n.1 >>> (3 : UInt8)) &&& 7)).toNat : Int)) ∧
    ((48 + bits BinOp.and IntKind.u8 ((UInt8.ofNat n.1).toNat : Int) 7) % 256 = (((48 : UInt8) + (UInt8.ofNat n.1 &&& 7)).toNat : Int)) := by decide +kernel
theorem oct_cells (c : UInt8) : Lib.byteCells [(48 : UInt8) + (c >>> (6 : UInt8)), (48 : UInt8) + ((c >>> (3 : UInt8)) &&& 7), (48 : UInt8) + (c &&& 7)] = octV3 c := by
  have h := oct_fin ⟨c.toNat, c.toNat_lt⟩
  simp only [UInt8.ofNat_toNat] at h
  obtain ⟨h1, h2, h3⟩ := h
  rw [octV3, h1, h2, h3]
  rfl

def octV4 (c : UInt8) : List Value := [.int .u8 (48 + (c.toNat : Int) / 64), .int .u8 (48 + (c.toNat : Int) / 8 % 8), .int .u8 (48 + (c.toNat : Int) % 8)]
theorem oct_low_fin : ∀ n : Fin 32, (48 + ((UInt8.ofNat n.1).toNat : Int) / 64 = (((48 : UInt8) + (UInt8.ofNat n.1 >>> (6 : UInt8))).toNat : Int)) ∧
    (48 + ((UInt8.ofNat n.1).toNat : Int) / 8 % 8 = (((48 : UInt8) + ((UInt8.ofNat n.1 >>> (3 : UInt8)) &&& 7)).toNat : Int)) ∧
    (48 + ((UInt8.ofNat n.1).toNat : Int) % 8 = (((48 : UInt8) + (UInt8.ofNat n.1 &&& 7)).toNat : Int)) := by decide +kernel
theorem oct_low (c : UInt8) (h : c.toNat < 32) : Lib.byteCells [(48 : UInt8) + (c >>> (6 : UInt8)), (48 : UInt8) + ((c >>> (3 : UInt8)) &&& 7), (48 : UInt8) + (c &&& 7)] = octV4 c := by
  have h := oct_low_fin ⟨c.toNat, h⟩
  simp only [UInt8.ofNat_toNat] at h
  obtain ⟨h1, h2, h3⟩ := h
  rw [octV4, h1, h2, h3]
  rfl

theorem quote_next {s : ByteArray} {k : Nat} {c : UInt8} (h : s.data.toList[k]? = some c) : (s.data.toList.take (k + 1)).flatMap quoteB = (s.data.toList.take k).flatMap quoteB ++ quoteB c := by
  rw [List.take_add_one, h]; simp

set_option maxHeartbeats 4000000 in
set_option maxRecDepth 1000000 in
theorem quote_walk (s : ByteArray) (w : World) (hs : s.size ≤ 1073741824) :
    Calls Try.prog 15 #[.string s] w fun e w' => e = .returned (.string ⟨(quoteL s.data.toList).toArray⟩) ∧ Below w.heap.size w w' := by
  go_enter Try.func15, Try.ntmps15
  go_wp2_with (go_at_call 33; refine (bld_byte w.heap.size w.heap.size [] 34 _ (Lib.fresh_isBuilder 79 5 w) (by simp) (by simp)).mono ?_)
  rintro e W1 ⟨rfl, h1, b1⟩
  go_wp2
  go_loopw [9] (fun i wr => ∃ k : Nat, k ≤ s.size ∧ i = .int .i64 k ∧ Lib.IsBuilder 79 5 w.heap.size w.heap.size (Lib.byteCells (34 :: (s.data.toList.take k).flatMap quoteB)) wr ∧ Below w.heap.size w wr) (fun i _ => s.size - (intOf i).toNat)
  case atStart =>
    refine ⟨0, Nat.zero_le _, rfl, ?_, ?_⟩
    · exact .inr h1
    · exact ((Below.refl _ w).alloc (Nat.le_refl _) _).trans b1
  case round =>
    obtain ⟨k, hk, rfl, hI, hbw⟩ := hrel
    by_cases hp : k < s.size
    · have hlen : (Lib.byteCells (34 :: (s.data.toList.take k).flatMap quoteB)).length ≤ 4 * 1073741824 + 1 := by
        rw [Lib.byteCells_length]
        have := quoteBs_len (s.data.toList.take k)
        simp only [List.length_cons, List.length_take] at this ⊢
        omega
      have hsz : w.heap.size ≤ wr.heap.size := hbw.size
      have hgk : s.data.toList[k]? = some s[k] := by
        rw [Array.getElem?_toList]; exact Array.getElem?_eq_getElem hp
      by_cases c34 : s[k].toNat = 34
      · go_wp2_with (go_at_call 33; refine (bld_byte _ _ _ _ _ hI (by omega) hsz).mono ?_)
        rintro e W2 ⟨rfl, h2, b2⟩
        have hz2 := Nat.le_trans hsz b2.size
        go_wp2_with (go_at_call 33; refine (bld_byte _ _ _ _ _ (.inr h2) (by simp only [List.length_append, List.length_cons, List.length_nil]; omega) hz2).mono ?_)
        rintro e W3 ⟨rfl, h3, b3⟩
        have hz3 := Nat.le_trans hz2 b3.size
        go_wp2
        go_roundw
        case rel =>
          refine ⟨k + 1, by omega, by simp, .inr ?_, ((hbw.trans b2).trans b3)⟩
          rw [quote_next hgk, show quoteB s[k] = [92, s[k]] from by unfold quoteB; rw [if_pos (.inl (UInt8.toNat_inj.1 c34))], ← List.cons_append, Lib.byteCells_append, show Lib.byteCells [92, s[k]] = [Value.int .u8 92, Value.int .u8 34] from by simp [Lib.byteCells, c34]]
          simpa only [List.append_assoc, List.cons_append, List.nil_append] using h3
        case measure => simp [intOf]; omega
      by_cases c92 : s[k].toNat = 92
      · go_wp2_with (go_at_call 33; refine (bld_byte _ _ _ _ _ hI (by omega) hsz).mono ?_)
        rintro e W2 ⟨rfl, h2, b2⟩
        have hz2 := Nat.le_trans hsz b2.size
        go_wp2_with (go_at_call 33; refine (bld_byte _ _ _ _ _ (.inr h2) (by simp only [List.length_append, List.length_cons, List.length_nil]; omega) hz2).mono ?_)
        rintro e W3 ⟨rfl, h3, b3⟩
        have hz3 := Nat.le_trans hz2 b3.size
        go_wp2
        go_roundw
        case rel =>
          refine ⟨k + 1, by omega, by simp, .inr ?_, ((hbw.trans b2).trans b3)⟩
          rw [quote_next hgk, show quoteB s[k] = [92, s[k]] from by unfold quoteB; rw [if_pos (.inr (UInt8.toNat_inj.1 c92))], ← List.cons_append, Lib.byteCells_append, show Lib.byteCells [92, s[k]] = [Value.int .u8 92, Value.int .u8 92] from by simp [Lib.byteCells, c92]]
          simpa only [List.append_assoc, List.cons_append, List.nil_append] using h3
        case measure => simp [intOf]; omega
      have n1 : ¬ (s[k] = 34 ∨ s[k] = 92) := by rintro (e | e) <;> (rw [e] at c34 c92; first | exact c34 rfl | exact c92 rfl)
      by_cases c10 : s[k].toNat = 10
      · go_wp2_with (go_at_call 34; refine (bld_text _ _ _ _ _ hI (by rw [show ByteArray.size ⟨#[_, _]⟩ = 2 from rfl]; omega) hsz).mono ?_)
        rintro e W2 ⟨rfl, h2, b2⟩
        go_wp2
        go_roundw
        case rel =>
          refine ⟨k + 1, by omega, by simp, .inr ?_, (hbw.trans b2)⟩
          rw [quote_next hgk, show quoteB s[k] = [92, 110] from by unfold quoteB; rw [if_neg n1, if_pos (UInt8.toNat_inj.1 c10)], ← List.cons_append, Lib.byteCells_append, show Lib.byteCells [92, 110] = Lib.strCells ⟨#[92, 110]⟩ from rfl]
          simpa only [List.append_assoc, List.cons_append, List.nil_append] using h2
        case measure => simp [intOf]; omega
      have n2 : ¬ s[k] = 10 := fun e => by rw [e] at c10; exact c10 rfl
      by_cases c9 : s[k].toNat = 9
      · go_wp2_with (go_at_call 34; refine (bld_text _ _ _ _ _ hI (by rw [show ByteArray.size ⟨#[_, _]⟩ = 2 from rfl]; omega) hsz).mono ?_)
        rintro e W2 ⟨rfl, h2, b2⟩
        go_wp2
        go_roundw
        case rel =>
          refine ⟨k + 1, by omega, by simp, .inr ?_, (hbw.trans b2)⟩
          rw [quote_next hgk, show quoteB s[k] = [92, 116] from by unfold quoteB; rw [if_neg n1, if_neg n2, if_pos (UInt8.toNat_inj.1 c9)], ← List.cons_append, Lib.byteCells_append, show Lib.byteCells [92, 116] = Lib.strCells ⟨#[92, 116]⟩ from rfl]
          simpa only [List.append_assoc, List.cons_append, List.nil_append] using h2
        case measure => simp [intOf]; omega
      have n3 : ¬ s[k] = 9 := fun e => by rw [e] at c9; exact c9 rfl
      by_cases c13 : s[k].toNat = 13
      · go_wp2_with (go_at_call 34; refine (bld_text _ _ _ _ _ hI (by rw [show ByteArray.size ⟨#[_, _]⟩ = 2 from rfl]; omega) hsz).mono ?_)
        rintro e W2 ⟨rfl, h2, b2⟩
        go_wp2
        go_roundw
        case rel =>
          refine ⟨k + 1, by omega, by simp, .inr ?_, (hbw.trans b2)⟩
          rw [quote_next hgk, show quoteB s[k] = [92, 114] from by unfold quoteB; rw [if_neg n1, if_neg n2, if_neg n3, if_pos (UInt8.toNat_inj.1 c13)], ← List.cons_append, Lib.byteCells_append, show Lib.byteCells [92, 114] = Lib.strCells ⟨#[92, 114]⟩ from rfl]
          simpa only [List.append_assoc, List.cons_append, List.nil_append] using h2
        case measure => simp [intOf]; omega
      have n4 : ¬ s[k] = 13 := fun e => by rw [e] at c13; exact c13 rfl
      by_cases cl : s[k].toNat < 32
      · go_wp2_with (go_at_call 33; refine (bld_byte _ _ _ _ _ hI (by omega) hsz).mono ?_)
        rintro e W2 rfl h2 b2
        have hz2 := Nat.le_trans hsz b2.size
        go_wp2_with (go_at_call 33; refine (bld_byte _ _ _ _ _ (.inr h2) (by simp only [List.length_append, List.length_cons, List.length_nil]; omega) hz2).mono ?_)
        rintro e W3 ⟨rfl, h3, b3⟩
        have hz3 := Nat.le_trans hz2 b3.size
        go_wp2_with (go_at_call 33; refine (bld_byte _ _ _ _ _ (.inr h3) (by simp only [List.length_append, List.length_cons, List.length_nil]; omega) hz3).mono ?_)
        rintro e W4 ⟨rfl, h4, b4⟩
        have hz4 := Nat.le_trans hz3 b4.size
        go_wp2_with (go_at_call 33; refine (bld_byte _ _ _ _ _ (.inr h4) (by simp only [List.length_append, List.length_cons, List.length_nil]; omega) hz4).mono ?_)
        rintro e W5 ⟨rfl, h5, b5⟩
        have hz5 := Nat.le_trans hz4 b5.size
        go_wp2
        go_roundw
        case rel =>
          refine ⟨k + 1, by omega, by simp, .inr ?_, ((((hbw.trans b2).trans b3).trans b4).trans b5)⟩
          rw [quote_next hgk, show quoteB s[k] = [92, (48 : UInt8) + (s[k] >>> (6 : UInt8)), (48 : UInt8) + ((s[k] >>> (3 : UInt8)) &&& 7), (48 : UInt8) + (s[k] &&& 7)] from by unfold quoteB; rw [if_neg n1, if_neg n2, if_neg n3, if_neg n4, if_pos (.inl (UInt8.lt_iff_toNat_lt.2 cl))], ← List.cons_append, Lib.byteCells_append, show Lib.byteCells [92, (48 : UInt8) + (s[k] >>> (6 : UInt8)), (48 : UInt8) + ((s[k] >>> (3 : UInt8)) &&& 7), (48 : UInt8) + (s[k] &&& 7)] = Value.int .u8 92 :: octV4 s[k] from by rw [← oct_low _ cl]; rfl]
          simpa only [List.append_assoc, List.cons_append, List.nil_append, octV4] using h5
        case measure => simp [intOf]; omega
      by_cases ch : s[k].toNat > 126
      · go_wp2_with (go_at_call 33; refine (bld_byte _ _ _ _ _ hI (by omega) hsz).mono ?_)
        rintro e W2 ⟨rfl, h2, b2⟩
        have hz2 := Nat.le_trans hsz b2.size
        go_wp2_with (go_at_call 33; refine (bld_byte _ _ _ _ _ (.inr h2) (by simp only [List.length_append, List.length_cons, List.length_nil]; omega) hz2).mono ?_)
        rintro e W3 ⟨rfl, h3, b3⟩
        have hz3 := Nat.le_trans hz2 b3.size
        go_wp2_with (go_at_call 33; refine (bld_byte _ _ _ _ _ (.inr h3) (by simp only [List.length_append, List.length_cons, List.length_nil]; omega) hz3).mono ?_)
        rintro e W4 ⟨rfl, h4, b4⟩
        have hz4 := Nat.le_trans hz3 b4.size
        go_wp2_with (go_at_call 33; refine (bld_byte _ _ _ _ _ (.inr h4) (by simp only [List.length_append, List.length_cons, List.length_nil]; omega) hz4).mono ?_)
        rintro e W5 ⟨rfl, h5, b5⟩
        have hz5 := Nat.le_trans hz4 b5.size
        go_wp2
        go_roundw
        case rel =>
          refine ⟨k + 1, by omega, by simp, .inr ?_, ((((hbw.trans b2).trans b3).trans b4).trans b5)⟩
          rw [quote_next hgk, show quoteB s[k] = [92, (48 : UInt8) + (s[k] >>> (6 : UInt8)), (48 : UInt8) + ((s[k] >>> (3 : UInt8)) &&& 7), (48 : UInt8) + (s[k] &&& 7)] from by unfold quoteB; rw [if_neg n1, if_neg n2, if_neg n3, if_neg n4, if_pos (.inr (UInt8.lt_iff_toNat_lt.2 ch))], ← List.cons_append, Lib.byteCells_append, show Lib.byteCells [92, (48 : UInt8) + (s[k] >>> (6 : UInt8)), (48 : UInt8) + ((s[k] >>> (3 : UInt8)) &&& 7), (48 : UInt8) + (s[k] &&& 7)] = Value.int .u8 92 :: octV3 s[k] from by rw [← oct_cells]; rfl]
          simpa only [List.append_assoc, List.cons_append, List.nil_append, octV3] using h5
        case measure => simp [intOf]; omega
      go_wp2_with (go_at_call 33; refine (bld_byte _ _ _ _ _ hI (by omega) hsz).mono ?_)
      rintro e W2 ⟨rfl, h2, b2⟩
      have hz2 := Nat.le_trans hsz b2.size
      go_wp2
      go_roundw
      case rel =>
        refine ⟨k + 1, by omega, by simp, .inr ?_, (hbw.trans b2)⟩
        rw [quote_next hgk, show quoteB s[k] = [s[k]] from by unfold quoteB; rw [if_neg n1, if_neg n2, if_neg n3, if_neg n4, if_neg (by rw [UInt8.lt_iff_toNat_lt, UInt8.lt_iff_toNat_lt]; rintro (e | e); exact cl e; exact ch e)], ← List.cons_append, Lib.byteCells_append, show Lib.byteCells [s[k]] = [Value.int .u8 (s[k].toNat : Int)] from rfl]
        simpa only [List.append_assoc, List.cons_append, List.nil_append] using h2
      case measure => simp [intOf]; omega
    · have hk2 : k = s.size := by omega
      subst hk2
      rw [show s.size = s.data.toList.length from ba_size s, List.take_length] at hI
      have hle := quoteBs_len s.data.toList
      rw [← ba_size s] at hle
      have hsz : w.heap.size ≤ wr.heap.size := hbw.size
      go_wp2_with (go_at_call 33; refine (bld_byte _ _ _ _ _ hI (by rw [Lib.byteCells_length]; simp only [List.length_cons]; omega) hsz).mono ?_)
      rintro e W2 ⟨rfl, h2, b2⟩
      have h3 : Lib.BuilderAt 79 5 w.heap.size w.heap.size (.pointer (some ⟨w.heap.size, 0, none⟩)) (Lib.byteCells (quoteL s.data.toList)) W2 := by
        rw [quoteL, ← List.cons_append, Lib.byteCells_append]; exact h2
      go_wp2_with (go_at_call 35; refine (bld_string _ _ _ _ (.inr h3) (by simp [quoteL])).mono ?_)
      rintro e W3 ⟨rfl, b3⟩
      go_wp2
      go_ret
      exact ⟨rfl, (hbw.trans b2).trans b3⟩

theorem Quote_spec (s : ByteArray) (hs : s.size ≤ 1073741824) : pureF Try.prog 15 [.p (.str s)] (.p (.str ⟨(quoteL s.data.toList).toArray⟩)) := by
  intro H μ w xs hi hx
  obtain ⟨hsz, hat⟩ := hx
  obtain ⟨x, rfl⟩ : ∃ x, xs = #[x] := by
    match xs, hsz with
    | ⟨[x]⟩, _ => exact ⟨x, rfl⟩
  have hx0 := (hat 0 x _ rfl rfl).str_inv
  subst hx0
  refine (quote_walk s w hs).mono ?_
  rintro e w' ⟨rfl, bel⟩
  exact ⟨_, _, H, μ, rfl, ⟨rfl, rfl⟩, hi.kept bel.size bel.block, .p _ _ (.str _), ⟨bel.os, bel.tape, bel.output, .refl _, ⟨bel.size, fun b hb hm => ⟨hm, bel.block b hb⟩⟩⟩⟩

end Go.Proofs.Ytemfnlidinnniaa.AD

namespace Go.Proofs.Ytemfnlidinnniaa.AD
open Go.Proofs
set_option linter.unusedVariables false
set_option linter.unusedSimpArgs false
set_option maxRecDepth 100000

/-- The three digits of a byte. -/
def od1 (c : UInt8) : UInt8 := (48 : UInt8) + (c >>> (6 : UInt8))
def od2 (c : UInt8) : UInt8 := (48 : UInt8) + ((c >>> (3 : UInt8)) &&& 7)
def od3 (c : UInt8) : UInt8 := (48 : UInt8) + (c &&& 7)
theorem od_fin : ∀ n : Fin 256, (¬ (od1 (UInt8.ofNat n.1) = 34 ∨ od1 (UInt8.ofNat n.1) = 92) ∧ od1 (UInt8.ofNat n.1) ≠ 110 ∧ od1 (UInt8.ofNat n.1) ≠ 116 ∧ od1 (UInt8.ofNat n.1) ≠ 114 ∧ od1 (UInt8.ofNat n.1) ≠ 10) ∧
    (oct (od1 (UInt8.ofNat n.1)) = true ∧ oct (od2 (UInt8.ofNat n.1)) = true ∧ oct (od3 (UInt8.ofNat n.1)) = true) ∧
    ((0 * 8 + octV (od1 (UInt8.ofNat n.1))) * 8 + octV (od2 (UInt8.ofNat n.1))) * 8 + octV (od3 (UInt8.ofNat n.1)) = n.1 := by decide +kernel
theorem od_of (c : UInt8) : (¬ (od1 c = 34 ∨ od1 c = 92) ∧ od1 c ≠ 110 ∧ od1 c ≠ 116 ∧ od1 c ≠ 114 ∧ od1 c ≠ 10) ∧ (oct (od1 c) = true ∧ oct (od2 c) = true ∧ oct (od3 c) = true) ∧
    ((0 * 8 + octV (od1 c)) * 8 + octV (od2 c)) * 8 + octV (od3 c) = c.toNat := by
  have h := od_fin ⟨c.toNat, c.toNat_lt⟩
  simpa only [UInt8.ofNat_toNat] using h
theorem piece_oct (c : UInt8) (r : List UInt8) : pieceP (od1 c :: od2 c :: od3 c :: r) = .ok [c] 3 := by
  obtain ⟨⟨h1, h2, h3, h4, h5⟩, ⟨h6, h7, h8⟩, h9⟩ := od_of c
  simp only [pieceP]
  rw [if_neg h1, if_neg h2, if_neg h3, if_neg h4, if_neg h5]
  simp only [digF]
  rw [if_neg (by rw [h6]; simp), if_neg (by rw [h7]; simp), if_neg (by rw [h8]; simp), h9, if_neg (by have := c.toNat_lt; omega), UInt8.ofNat_toNat]

theorem strP_byte (c : UInt8) (r : List UInt8) (f i : Nat) (b : List UInt8) (hf : (quoteB c ++ r).length < f) : ∃ f', r.length < f' ∧ strP f (quoteB c ++ r) i b = strP f' r (i + (quoteB c).length) (b ++ [c]) := by
  have esc : ∀ (e : List UInt8) (n : Nat), quoteB c = 92 :: e → e.length = n → pieceP (e ++ r) = .ok [c] n → ∃ f', r.length < f' ∧ strP f (quoteB c ++ r) i b = strP f' r (i + (quoteB c).length) (b ++ [c]) := by
    intro e n he hn hp
    rw [he] at hf ⊢
    simp only [List.cons_append, List.length_cons, List.length_append] at hf ⊢
    obtain ⟨g, rfl⟩ : ∃ g, f = g + 1 := ⟨f - 1, by omega⟩
    refine ⟨g, by omega, ?_⟩
    simp only [strP]
    rw [if_neg (by decide), if_neg (by decide), if_pos (by decide), hp]
    simp only
    rw [← hn, List.drop_left, show i + 1 + e.length = i + (e.length + 1) by omega]
  by_cases h1 : c = 34 ∨ c = 92
  · exact esc [c] 1 (by unfold quoteB; rw [if_pos h1]) rfl (by simp only [List.cons_append, List.nil_append, pieceP]; rw [if_pos h1])
  by_cases h2 : c = 10
  · exact esc [110] 1 (by unfold quoteB; rw [if_neg h1, if_pos h2]) rfl (by rw [h2]; rfl)
  by_cases h3 : c = 9
  · exact esc [116] 1 (by unfold quoteB; rw [if_neg h1, if_neg h2, if_pos h3]) rfl (by rw [h3]; rfl)
  by_cases h4 : c = 13
  · exact esc [114] 1 (by unfold quoteB; rw [if_neg h1, if_neg h2, if_neg h3, if_pos h4]) rfl (by rw [h4]; rfl)
  by_cases h5 : c < 32 ∨ 126 < c
  · exact esc [od1 c, od2 c, od3 c] 3 (by unfold quoteB; rw [if_neg h1, if_neg h2, if_neg h3, if_neg h4, if_pos h5]; rfl) rfl (piece_oct c r)
  · have he : quoteB c = [c] := by unfold quoteB; rw [if_neg h1, if_neg h2, if_neg h3, if_neg h4, if_neg h5]
    rw [he] at hf ⊢
    simp only [List.cons_append, List.nil_append, List.length_cons, List.length_nil] at hf ⊢
    obtain ⟨g, rfl⟩ : ∃ g, f = g + 1 := ⟨f - 1, by omega⟩
    refine ⟨g, by omega, ?_⟩
    simp only [strP]
    rw [if_neg h2, if_neg (fun e => h1 (.inl e)), if_neg (fun e => h1 (.inr e))]
theorem strP_quote (x : List UInt8) : ∀ (l : List UInt8) (f i : Nat) (b : List UInt8), (l.flatMap quoteB ++ 34 :: x).length < f → strP f (l.flatMap quoteB ++ 34 :: x) i b = .tok 4 (ofL (b ++ l)) (i + (l.flatMap quoteB).length + 1)
  | [], f, i, b, hf => by
    obtain ⟨g, rfl⟩ : ∃ g, f = g + 1 := ⟨f - 1, by omega⟩
    simp only [List.flatMap_nil, List.nil_append, strP]
    rw [if_neg (by decide), if_pos (by decide), List.append_nil]
    rfl
  | c :: r, f, i, b, hf => by
    rw [List.flatMap_cons, List.append_assoc] at hf ⊢
    obtain ⟨f', h1, h2⟩ := strP_byte c (r.flatMap quoteB ++ 34 :: x) f i b hf
    rw [h2, strP_quote x r f' _ _ h1, List.append_assoc]
    simp only [List.length_append, List.cons_append, List.nil_append]
    congr 1
    omega
theorem quoteL_len (l : List UInt8) : (quoteL l).length = (l.flatMap quoteB).length + 2 := by simp [quoteL]
theorem nextP_quote (l x : List UInt8) : nextP (quoteL l ++ x) = .tok 4 (ofL l) (quoteL l).length := by
  have e : quoteL l ++ x = 34 :: (l.flatMap quoteB ++ 34 :: x) := by simp [quoteL]
  rw [e]
  simp only [nextP]
  rw [if_neg (by decide), if_neg (by decide), if_pos trivial, strP_quote x l _ 1 [] (by omega), quoteL_len]
  simp only [List.nil_append]
  congr 1
  omega

theorem nam_all : ∀ l : List UInt8, (l.all fun c => letterB c.toNat || digitB c.toNat) = true → whileL nam l = l.length
  | [], _ => rfl
  | d :: r, h => by
    rw [List.all_cons, Bool.and_eq_true] at h
    simp only [whileL]
    rw [if_pos h.1, nam_all r h.2]; simp only [List.length_cons]
/-- A name, where no name's byte stands behind it. -/
theorem nextP_nameB {n : ByteArray} (hn : nameB n = true) {x : List UInt8} (hx : ∀ h y, x = h :: y → nam h = false) : ∃ c w, n.data.toList = c :: w ∧ nextP (c :: (w ++ x)) = .tok 1 n (c :: w).length := by
  unfold nameB at hn
  cases hl : n.data.toList with
  | nil => rw [hl] at hn; cases hn
  | cons c w =>
    rw [hl] at hn
    simp only [Bool.and_eq_true] at hn
    refine ⟨c, w, rfl, ?_⟩
    have hw : whileL nam (c :: w) = (c :: w).length := nam_all _ (by rw [List.all_cons, hn.1, Bool.true_or, hn.2]; rfl)
    have hw2 : whileL nam (c :: (w ++ x)) = (c :: w).length := by
      rw [← List.cons_append, whileL_app (p := nam) hx, hw]
    simp only [nextP]
    rw [if_pos (show lett c = true from hn.1), hw2, ← List.cons_append, List.take_left, ← hl, ofL_of]

/-- One token and no more. -/
theorem tokensR_one {s : ByteArray} {c : UInt8} {r : List UInt8} {k : Int} {t : ByteArray} (hl : s.data.toList = c :: r) (hs : s.size ≤ 65536) (h : nextP (c :: r) = .tok k t (c :: r).length) : tokensR s = .ok [⟨k, t, 0, s.size⟩] := by
  refine tokensR_of hs (by simp) ?_
  rw [hl]
  unfold TokS
  have h0 := nextP_head h r
  rw [h0]
  have hd : (c :: r).drop (c :: r).length = [] := List.drop_length ..
  have q := Toks.cons c r (0 + 0) k t (c :: r).length [] h (by rw [hd]; exact .nil _)
  have e : s.size = (c :: r).length := by rw [ba_size, hl]
  rw [e]
  rw [Nat.zero_add] at q ⊢
  simpa using q
theorem tokens_quote (s : ByteArray) (hs : s.size ≤ 16000) : tokensR ⟨(quoteL s.data.toList).toArray⟩ = .ok [⟨4, s, 0, (⟨(quoteL s.data.toList).toArray⟩ : ByteArray).size⟩] := by
  have hl := quoteBs_len s.data.toList
  rw [← ba_size] at hl
  have hd : (⟨(quoteL s.data.toList).toArray⟩ : ByteArray).data.toList = 34 :: (s.data.toList.flatMap quoteB ++ [34]) := by simp [quoteL]
  have h := nextP_quote s.data.toList []
  rw [List.append_nil, ofL_of] at h
  refine tokensR_one hd ?_ h
  rw [ba_size, hd]
  simp only [List.length_cons, List.length_append, List.length_nil]
  omega
theorem tokens_name (s : ByteArray) (hn : nameB s = true) (hs : s.size ≤ 65536) : tokensR s = .ok [⟨1, s, 0, s.size⟩] := by
  obtain ⟨c, w, hl, h⟩ := nextP_nameB hn (x := []) (fun h y e => by cases e)
  rw [List.append_nil] at h
  exact tokensR_one hl hs h

end Go.Proofs.Ytemfnlidinnniaa.AD

namespace Go.Proofs.Ytemfnlidinnniaa.AD
open Go.Proofs
set_option linter.unusedVariables false
set_option linter.unusedSimpArgs false
set_option linter.unusedSectionVars false
set_option maxRecDepth 100000

theorem one_sign {c : UInt8} (X : List UInt8) (h1 : lett c = false) (h2 : dig c = false) (h3 : c ≠ 34) (h4 : ∀ p, p ∈ twos → p.data.toList.head? ≠ some c) (h5 : 0 ≤ Lib.indexByte ones.data.toList c) : nextP (c :: X) = .tok 6 ⟨#[c]⟩ 1 := by
  have hs : signL (c :: X) = 1 := by
    unfold signL
    rw [if_neg]
    · exact if_pos h5
    rw [List.any_eq_true]
    rintro ⟨p, hp, hb⟩
    refine h4 p hp ?_
    unfold preB at hb
    have hb := of_decide_eq_true hb
    have h2 := (twos_sep p hp).2
    rw [h2, List.take_succ_cons] at hb
    rw [← hb]; rfl
  simp only [nextP]
  rw [if_neg (by rw [h1]; simp), if_neg (by rw [h2]; simp), if_neg h3, hs]
  rfl
theorem arrow_sign (X : List UInt8) : nextP (45 :: 62 :: X) = .tok 6 ⟨#[45, 62]⟩ 2 := by
  have hs : signL (45 :: 62 :: X) = 2 := by
    unfold signL
    rw [if_pos]
    rw [List.any_eq_true]
    exact ⟨⟨#[45, 62]⟩, by simp [twos], decide_eq_true rfl⟩
  simp only [nextP]
  rw [if_neg (by decide), if_neg (by decide), if_neg (by decide), hs]
  rfl
theorem twos_head {c : UInt8} (hc : c = 40 ∨ c = 41 ∨ c = 59) : ∀ p, p ∈ twos → p.data.toList.head? ≠ some c := by
  intro p hp
  simp only [twos, List.mem_cons, List.mem_nil_iff, or_false] at hp
  rcases hc with rfl | rfl | rfl <;> rcases hp with rfl | rfl | rfl | rfl | rfl | rfl | rfl | rfl <;> decide

def tokPar (q : Nat) : Tok := ⟨6, ⟨#[40]⟩, q, q + 1⟩
theorem tok_one {c : UInt8} {X : List UInt8} {us : List Tok} {q : Nat} (hs : skipF false (c :: X) = 0) (h : nextP (c :: X) = .tok 6 ⟨#[c]⟩ 1) (hx : TokS X (q + 1) us) : TokS (c :: X) q (⟨6, ⟨#[c]⟩, q, q + 1⟩ :: us) := by
  unfold TokS
  rw [hs]
  exact .cons c X q 6 _ 1 us h hx

theorem paren_tokens {a : ByteArray} {L : List Tok} (h : tokensR a = .ok L) (sa : a.size ≤ 30000) (hl : L.length ≤ 8184) (s : ByteArray) (hs : s.data.toList = 40 :: (a.data.toList ++ [10, 41])) :
    tokensR s = .ok (⟨6, ⟨#[40]⟩, 0, 1⟩ :: (L.map (shT 1) ++ [⟨6, ⟨#[41]⟩, a.size + 2, a.size + 3⟩])) := by
  refine tokensR_of (by rw [ba_size, hs]; simp only [List.length_cons, List.length_append, ← ba_size]; simp; omega) (by simp; omega) ?_
  rw [hs]
  refine tok_one rfl (one_sign _ (by decide) (by decide) (by decide) (twos_head (.inl rfl)) (by decide)) ?_
  rw [Nat.zero_add]
  refine tokS_join [41] [⟨6, ⟨#[41]⟩, a.size + 2, a.size + 3⟩] _ _ 1 ?_ ?_
  · have h2 := toks_shift 1 (tokS_of h)
    unfold TokS
    rw [show 1 + skipF false a.data.toList = 0 + skipF false a.data.toList + 1 by omega]
    exact h2
  · rw [← ba_size, show 1 + a.size + 1 = a.size + 2 by omega]
    exact tok_one rfl (one_sign _ (by decide) (by decide) (by decide) (twos_head (.inr (.inl rfl))) (by decide)) (.nil _)

theorem value_tokens {a v : ByteArray} {L : List Tok} (h : tokensR a = .ok L) (sa : a.size ≤ 30000) (sv : v.size ≤ 7000) (hl : L.length ≤ 8184) (s : ByteArray) (hs : s.data.toList = a.data.toList ++ 10 :: (45 :: 62 :: (quoteL v.data.toList ++ [59]))) :
    ∃ x y z : Tok, tokensR s = .ok (L ++ [x, y, z]) ∧ (x.k = 6 ∧ x.t = ⟨#[45, 62]⟩) ∧ (y.k = 4 ∧ y.t = v) ∧ (z.k = 6 ∧ z.t = ⟨#[59]⟩) := by
  have hq := quoteL_len v.data.toList
  have hq2 := quoteBs_len v.data.toList
  rw [← ba_size] at hq2
  refine ⟨⟨6, ⟨#[45, 62]⟩, a.size + 1, a.size + 1 + 2⟩, ⟨4, ofL v.data.toList, a.size + 1 + 2, a.size + 1 + 2 + (quoteL v.data.toList).length⟩, ⟨6, ⟨#[59]⟩, a.size + 1 + 2 + (quoteL v.data.toList).length, a.size + 1 + 2 + (quoteL v.data.toList).length + 1⟩, ?_, ⟨rfl, rfl⟩, ⟨rfl, ?_⟩, ⟨rfl, rfl⟩⟩
  · refine tokensR_of (by rw [ba_size, hs]; simp only [List.length_cons, List.length_append, ← ba_size]; simp; omega) (by simp; omega) ?_
    rw [hs]
    refine tokS_join _ _ _ _ 0 (tokS_of h) ?_
    rw [← ba_size, Nat.zero_add]
    have e : quoteL v.data.toList ++ [59] = 34 :: ((v.data.toList.flatMap quoteB ++ [34]) ++ [59]) := rfl
    unfold TokS
    rw [show skipF false (45 :: 62 :: (quoteL v.data.toList ++ [59])) = 0 from rfl]
    refine .cons 45 _ _ 6 _ 2 _ (arrow_sign _) ?_
    show Toks ((quoteL v.data.toList ++ [59]).drop (skipF false (quoteL v.data.toList ++ [59]))) (a.size + 1 + 2 + skipF false (quoteL v.data.toList ++ [59])) _
    rw [show skipF false (quoteL v.data.toList ++ [59]) = 0 by rw [e]; rfl]
    rw [List.drop_zero, Nat.add_zero]
    have hn := nextP_quote v.data.toList [59]
    have hd : (quoteL v.data.toList ++ [59]).drop (quoteL v.data.toList).length = [59] := List.drop_left
    generalize hqq : quoteL v.data.toList ++ [59] = QQ at hn hd
    cases QQ with
    | nil => exact absurd (congrArg List.length hqq) (by simp)
    | cons c r =>
      refine .cons c r _ 4 _ _ _ hn ?_
      rw [hd]
      exact tok_one rfl (one_sign _ (by decide) (by decide) (by decide) (twos_head (.inr (.inr rfl))) (by decide)) (.nil _)
  · exact ba_of_toList (ofL_data _)

end Go.Proofs.Ytemfnlidinnniaa.AD

namespace Go.Proofs.Ytemfnlidinnniaa.AD
open Go.Proofs
set_option linter.unusedVariables false
set_option linter.unusedSimpArgs false
set_option linter.unusedSectionVars false
set_option maxRecDepth 100000

theorem expr_ok {s : ByteArray} {e : Ex} (h : readC s (fun L => exprC L 800 1 ⟨0, 0⟩) = some (.ok e)) : ∃ L t, tokensR s = .ok L ∧ exprC L 800 1 ⟨0, 0⟩ = some (.ok e t) ∧ t.a = L.length ∧ t.deep = 0 := by
  unfold readC at h
  cases hT : tokensR s with
  | err p e => rw [hT] at h; cases h
  | ok L =>
    rw [hT] at h
    simp only at h
    obtain ⟨oo, hx, ho⟩ := Option.map_eq_some_iff.1 h
    cases oo with
    | bad e st => cases ho
    | ok x st =>
      unfold endC at ho
      simp only at ho
      split at ho
      · cases ho
      · rename_i hlt
        cases ho
        have := exprC_goes L 800 1 _ _ _ ⟨Nat.zero_le _, Nat.zero_le _⟩ hx
        have h1 := this.1.1
        exact ⟨L, st, rfl, hx, by omega, this.2.1⟩
theorem expr_err {s : ByteArray} {p e : Int} (h : readC s (fun L => exprC L 800 1 ⟨0, 0⟩) = some (.err p e)) : e ≠ 0 := by
  unfold readC at h
  cases hT : tokensR s with
  | err q f =>
    rw [hT] at h
    cases h
    have := (tokensR_err hT).1
    omega
  | ok L =>
    rw [hT] at h
    obtain ⟨oo, hx, ho⟩ := Option.map_eq_some_iff.1 h
    have hb := exprC_bad _ _ _ _ hx
    cases oo with
    | bad e st =>
      cases ho
      have hb : e = 150 ∨ e = 3 := hb
      omega
    | ok x st =>
      unfold endC at ho
      simp only at ho
      split at ho
      · cases ho; decide
      · cases ho

theorem peek_at {M : List Tok} {st : RC} {t : Tok} (h : M[st.a]? = some t) : peekC M st = if t.k = 6 then t.t else ⟨#[]⟩ := by unfold peekC; rw [h]
theorem peek_end {M : List Tok} {st : RC} (h : M.length ≤ st.a) : peekC M st = ⟨#[]⟩ := by unfold peekC; rw [List.getElem?_eq_none h]
theorem loop_stop {M : List Tok} {X : RX} {least : Int} {k : Nat} {has : Int} {e : Ex} {st : RC} (h : (binC (peekC M st)).2.2.2 = 0) : loopC M X least (k + 1) has e st = some (.ok e st) := by
  simp only [loopC]
  rw [if_pos]
  unfold stopC
  rw [h]; rfl

/-- In parentheses. -/
theorem paren_expr {L : List Tok} {e : Ex} {p q : Tok} {s : RC} {d : Nat} (hx : exprC L 800 1 ⟨0, 0⟩ = some (.ok e s)) (hs : s.a = L.length) (hd : s.deep = 0) (hp : p.k = 6 ∧ p.t = ⟨#[40]⟩) (hq : q.k = 6 ∧ q.t = ⟨#[41]⟩) :
    (∃ s', exprC (p :: (L.map (shT d) ++ [q])) 801 1 ⟨0, 0⟩ = some (.ok e s') ∧ s'.a = L.length + 2) ∨ ∃ s', exprC (p :: (L.map (shT d) ++ [q])) 801 1 ⟨0, 0⟩ = some (.bad 3 s') := by
  generalize hM : p :: (L.map (shT d) ++ [q]) = M
  have hlen : M.length = L.length + 2 := by rw [← hM]; simp
  have g0 : M[0]? = some p := by rw [← hM]; rfl
  have gq : M[L.length + 1]? = some q := by
    rw [← hM, List.getElem?_cons_succ, List.getElem?_append_right (by simp), List.length_map, Nat.sub_self]; rfl
  have hS : SameT L M 1 := fun i t h => by
    refine ⟨shT d t, ?_, rfl, rfl⟩
    rw [← hM, Nat.add_comm, List.getElem?_cons_succ, List.getElem?_append_left (by rw [List.length_map]; exact (List.getElem?_eq_some_iff.1 h).1), List.getElem?_map, h]; rfl
  have p0 : peekC M ⟨0, 0⟩ = ⟨#[40]⟩ := by rw [peek_at g0, if_pos hp.1, hp.2]
  have hin : Upto L M 1 s.a := by
    refine .inr ?_
    unfold inert
    rw [peek_at (t := q) (by rw [Nat.add_comm]; exact gq), if_pos hq.1, hq.2]
    decide
  have hsim := (exprC_sim (δ := 1) hS 800 1).2 _ _ _ ⟨Nat.zero_le _, Nat.zero_le _⟩ hx hin
  have hfirst : firstC M (exprC M 800) 1 ⟨0, 0⟩ = deepC ⟨0, 0⟩ (parC M (exprC M 800)) := by
    unfold firstC
    have hip : isPre M 1 ⟨0, 0⟩ = false := by unfold isPre; rw [p0]; decide
    rw [hip, p0, if_neg (by simp), if_pos (by decide)]
  have hdeep : deepC ⟨0, 0⟩ (parC M (exprC M 800)) = match parC M (exprC M 800) ⟨1, 1⟩ with
    | none => none
    | some (.bad e s) => some (.bad e s)
    | some (.ok x s) => some (.ok x ⟨s.a, s.deep - 1⟩) := by
    unfold deepC
    rw [if_neg (by decide)]
    simp only [Nat.zero_add]
    cases parC M (exprC M 800) ⟨1, 1⟩ with
    | none => rfl
    | some o => cases o <;> rfl
  have e0 : mvC 1 1 ⟨0, 0⟩ = ⟨1, 1⟩ := rfl
  rw [e0] at hsim
  show (∃ s', stepC M (exprC M 800) 1 ⟨0, 0⟩ = some (.ok e s') ∧ s'.a = L.length + 2) ∨ ∃ s', stepC M (exprC M 800) 1 ⟨0, 0⟩ = some (.bad 3 s')
  unfold stepC
  rw [hfirst, hdeep]
  unfold parC
  rcases hsim with h | ⟨_, s', h⟩
  · rw [h]
    have hmu : mustC M ⟨#[41]⟩ (mvC 1 1 s) = .ok () (advC (mvC 1 1 s)) := by
      unfold mustC
      rw [peek_at (t := q) (by simp only [mvC]; rw [hs, Nat.add_comm]; exact gq), if_pos hq.1, hq.2]
      rfl
    simp only
    rw [hmu]
    simp only
    rw [loop_stop (k := 8999) (by rw [peek_end (by simp only [advC, mvC]; omega)]; decide)]
    refine .inl ⟨_, rfl, ?_⟩
    simp only [advC, mvC]
    omega
  · rw [h]
    exact .inr ⟨_, rfl⟩

/-- A test does not begin with a closing brace. -/
theorem expr_brace {L : List Tok} {k : Nat} {least : Int} {st s : RC} {e : Ex} (h : exprC L k least st = some (.ok e s)) : eqL (peekC L st) ⟨#[125]⟩ = false := by
  cases k with
  | zero => cases h
  | succ k =>
    cases hb : eqL (peekC L st) ⟨#[125]⟩ with
    | false => rfl
    | true =>
      exfalso
      have hp := eqL_eq hb
      replace h : stepC L (exprC L k) least st = some (.ok e s) := h
      unfold stepC firstC at h
      have hip : isPre L least st = false := by unfold isPre; rw [hp]; rw [show (unC ⟨#[125]⟩).2 = 0 by decide]; simp
      rw [hip, hp, if_neg (by simp), if_neg (by decide)] at h
      have ha : ∃ st', aloneC L st = .bad 150 st' := by
        unfold aloneC
        split
        · exact ⟨_, rfl⟩
        · rename_i t ht
          have hk : t.k = 6 := by
            rw [peek_at ht] at hp
            split at hp
            · rename_i hk; exact hk
            · exact absurd (congrArg ByteArray.size hp) (by decide)
          have : litC t = none := by unfold litC; rw [hk]; rfl
          rw [this]
          exact ⟨_, rfl⟩
      obtain ⟨st', ha⟩ := ha
      rw [ha] at h
      cases h

/-- With a value behind it. -/
theorem value_prog {L : List Tok} {e : Ex} {x y z : Tok} {s : RC} {v : ByteArray} (hx : exprC L 800 1 ⟨0, 0⟩ = some (.ok e s)) (hs : s.a = L.length) (hd : s.deep = 0) (h1 : x.k = 6 ∧ x.t = ⟨#[45, 62]⟩) (h2 : y.k = 4 ∧ y.t = v) (h3 : z.k = 6 ∧ z.t = ⟨#[59]⟩) :
    ∃ t, progC (L ++ [x, y, z]) 800 70 ⟨0, 0⟩ = some (.ok [.mk 2 e (.mk 1 v []) []] t) ∧ t.a = (L ++ [x, y, z]).length := by
  generalize hM : L ++ [x, y, z] = M
  have hlen : M.length = L.length + 3 := by rw [← hM]; simp
  have gx : M[L.length]? = some x := by rw [← hM, List.getElem?_append_right (Nat.le_refl _), Nat.sub_self]; rfl
  have gy : M[L.length + 1]? = some y := by rw [← hM, List.getElem?_append_right (by omega), Nat.add_sub_cancel_left]; rfl
  have gz : M[L.length + 2]? = some z := by rw [← hM, List.getElem?_append_right (by omega), Nat.add_sub_cancel_left]; rfl
  have hS : SameT L M 0 := by rw [← hM]; exact sameT_front L _
  have hpos : 0 < L.length := by
    have := (exprC_goes L 800 1 _ _ _ ⟨Nat.zero_le _, Nat.zero_le _⟩ hx).2.2
    simp only at this
    omega
  have px : ∀ dd, peekC M ⟨L.length, dd⟩ = ⟨#[45, 62]⟩ := fun dd => by rw [peek_at (t := x) gx, if_pos h1.1, h1.2]
  have py : ∀ dd, peekC M ⟨L.length + 1, dd⟩ = ⟨#[]⟩ := fun dd => by rw [peek_at (t := y) gy, if_neg (by rw [h2.1]; decide)]
  have pz : ∀ dd, peekC M ⟨L.length + 2, dd⟩ = ⟨#[59]⟩ := fun dd => by rw [peek_at (t := z) gz, if_pos h3.1, h3.2]
  have hin : Upto L M 0 s.a := .inr (by unfold inert; rw [Nat.zero_add, px]; decide)
  have hsim := (exprC_sim (δ := 0) hS 800 1).2 _ _ _ ⟨Nat.zero_le _, Nat.zero_le _⟩ hx hin
  have es : mvC 0 0 s = ⟨L.length, 0⟩ := by
    cases s
    simp only at hs hd
    subst hs hd
    simp [mvC]
  have e0 : mvC 0 0 ⟨0, 0⟩ = ⟨0, 0⟩ := rfl
  have k1 : exprC M 800 1 ⟨0, 0⟩ = some (.ok e ⟨L.length, 0⟩) := by
    rcases hsim with h | ⟨h, _⟩
    · rw [e0, es] at h; exact h
    · exact absurd rfl h
  have k2 : exprC M 800 5 ⟨L.length + 1, 0⟩ = some (.ok (.mk 1 v []) ⟨L.length + 2, 0⟩) := by
    show stepC M (exprC M 799) 5 ⟨L.length + 1, 0⟩ = _
    unfold stepC firstC
    have hip : isPre M 5 ⟨L.length + 1, 0⟩ = false := by unfold isPre; rw [py]; decide
    have ha : aloneC M ⟨L.length + 1, 0⟩ = .ok (.mk 1 v []) ⟨L.length + 2, 0⟩ := by
      unfold aloneC
      simp only
      rw [gy]
      have : litC y = some (.mk 1 v []) := by unfold litC; rw [if_pos h2.1, h2.2]
      simp only [this]
      rfl
    rw [hip, py, if_neg (by simp), if_neg (by decide), ha]
    simp only
    exact loop_stop (k := 8999) (by rw [pz]; decide)
  have k3 : clauseC M (exprC M 800) (progC M 800 69) ⟨0, 0⟩ = some (.ok (.mk 2 e (.mk 1 v []) []) ⟨L.length + 3, 0⟩) := by
    unfold clauseC
    rw [k1]
    simp only
    have ea : advC ⟨L.length, 0⟩ = ⟨L.length + 1, 0⟩ := rfl
    rw [px, if_pos (by decide), ea, py, if_neg (by decide), k2]
    simp only
    unfold semiC mustC
    rw [pz, if_pos (by decide)]
    rfl
  refine ⟨⟨L.length + 3, 0⟩, ?_, by rw [hlen]⟩
  show progLoopC M (clauseC M (exprC M 800) (progC M 800 69)) 9000 [] ⟨0, 0⟩ = _
  rw [show (9000 : Nat) = 8998 + 1 + 1 from rfl, progLoopC]
  have g1 : goesC M ⟨0, 0⟩ = true := by
    unfold goesC
    have := expr_brace k1
    rw [this, decide_eq_true (show (0 : Nat) < M.length by omega)]
    rfl
  rw [if_pos g1, k3]
  simp only
  rw [progLoopC]
  have g2 : goesC M ⟨L.length + 3, 0⟩ = false := by
    unfold goesC
    rw [decide_eq_false (show ¬ L.length + 3 < M.length by omega)]
    rfl
  rw [g2]
  rfl

end Go.Proofs.Ytemfnlidinnniaa.AD

namespace Go.Proofs.Ytemfnlidinnniaa.AD
open Go.Proofs
set_option linter.unusedVariables false
set_option linter.unusedSimpArgs false
set_option linter.unusedSectionVars false
set_option maxRecDepth 100000

theorem CondsParens_spec (a v : ByteArray) (ha : (a.size : Int) ≤ 9223372036854775807) (hv : (v.size : Int) ≤ 9223372036854775807) : pureF Try.prog 5 [.p (.str a), .p (.str v)] (.p (.bool true)) := by
  refine pureF_of f5_ok fun H => ?_
  obtain ⟨o1, h1⟩ := expr_tot a
  have c1 := Expr_spec a ha 800 h1
  have hw := worksC_spec
  (conv => whnf)
  refine CallVC.pureF c1 rfl ?_
  cases o1 with
  | err p e =>
    have he := expr_err h1
    repeat' ((conv => whnf); first | refine splitB_t (bne_iff_ne.2 he) ?_ | refine splitB_t rfl ?_ | refine splitB_f rfl ?_ | refine CallVC.pureF hw rfl ?_ | exact ⟨rfl, rfl⟩ | done)
  | ok e =>
    obtain ⟨L, t1, e1, p1, q1, d1⟩ := expr_ok h1
    have k1 := Tokens_spec a ha
    rw [e1] at k1
    have hLl : (L.map tkP).length = L.length := List.length_map _
    have sm := exprC_sm p1
    have g1 := SameX_spec _ sm
    obtain ⟨oe, te, xe⟩ := e
    repeat' ((conv => whnf); first | refine splitB_t rfl ?_ | refine splitB_f rfl ?_ | done)
    (conv => whnf)
    refine splitB_dec (fun s1 => ?_) (fun s1 => ?_)
    · repeat' ((conv => whnf); first | refine splitB_t rfl ?_ | refine splitB_f rfl ?_ | refine CallVC.pureF hw rfl ?_ | exact ⟨rfl, rfl⟩ | done)
    (conv => whnf)
    refine splitB_dec (fun s2 => ?_) (fun s2 => ?_)
    · repeat' ((conv => whnf); first | refine splitB_t rfl ?_ | refine splitB_f rfl ?_ | refine CallVC.pureF hw rfl ?_ | exact ⟨rfl, rfl⟩ | done)
    (conv => whnf)
    refine CallVC.pureF k1 rfl ?_
    (conv => whnf)
    refine splitB_dec (fun s3 => ?_) (fun s3 => ?_)
    · repeat' ((conv => whnf); first | refine splitB_t rfl ?_ | refine splitB_f rfl ?_ | refine CallVC.pureF hw rfl ?_ | exact ⟨rfl, rfl⟩ | done)
    have z1 : (ByteArray.mk #[40]).size = 1 := rfl
    have z2 : (ByteArray.mk #[10, 41]).size = 2 := rfl
    have z3 : (ByteArray.mk #[10, 45, 62]).size = 3 := rfl
    have z4 : (ByteArray.mk #[59]).size = 1 := rfl
    have hT2 := paren_tokens e1 (by omega) (by omega) ((⟨#[40]⟩ ++ a) ++ ⟨#[10, 41]⟩) (by simp [ByteArray.data_append])
    have hsz2 : ((((⟨#[40]⟩ : ByteArray) ++ a) ++ ⟨#[10, 41]⟩).size : Int) ≤ 9223372036854775807 := by rw [ByteArray.size_append, ByteArray.size_append, z1, z2]; omega
    have hq := quoteL_len v.data.toList
    have hq2 := quoteBs_len v.data.toList
    rw [← ba_size] at hq2
    have hqs : (⟨(quoteL v.data.toList).toArray⟩ : ByteArray).size = (quoteL v.data.toList).length := by rw [ba_size]
    have hquote := Quote_spec v (by omega)
    obtain ⟨x, y, z, hT3, j1, j2, j3⟩ := value_tokens (v := v) e1 (by omega) (by omega) (by omega) (((a ++ ⟨#[10, 45, 62]⟩) ++ ⟨(quoteL v.data.toList).toArray⟩) ++ ⟨#[59]⟩) (by simp [ByteArray.data_append])
    obtain ⟨t3, p3, q3⟩ := value_prog p1 q1 d1 j1 j2 j3
    have hread3 := parse_of hT3 p3 q3
    have c3 := Parse_spec _ (by rw [ByteArray.size_append, ByteArray.size_append, ByteArray.size_append, z3, z4, hqs]; omega) 800 70 hread3
    rcases paren_expr (d := 1) (p := ⟨6, ⟨#[40]⟩, 0, 1⟩) (q := ⟨6, ⟨#[41]⟩, a.size + 2, a.size + 3⟩) p1 q1 d1 ⟨rfl, rfl⟩ ⟨rfl, rfl⟩ with ⟨s', p2, q2⟩ | ⟨s', p2⟩
    · have hread : readC ((⟨#[40]⟩ ++ a) ++ ⟨#[10, 41]⟩) (fun L => exprC L 801 1 ⟨0, 0⟩) = some (.ok (.mk oe te xe)) := by
        unfold readC
        rw [hT2]
        simp only [p2]
        show some (endC _ _ (PO.ok (Ex.mk oe te xe) s')) = _
        unfold endC
        simp only
        rw [if_neg (by simp; omega)]
      have c2 := Expr_spec _ hsz2 801 hread
      (conv => whnf)
      refine ⟨by rw [z1]; omega, ?_⟩
      (conv => whnf)
      refine ⟨by rw [ByteArray.size_append, z1, z2]; omega, ?_⟩
      (conv => whnf)
      refine CallVC.pureF c2 rfl ?_
      repeat' ((conv => whnf); first | refine splitB_t rfl ?_ | refine splitB_f rfl ?_ | done)
      (conv => whnf)
      refine ⟨by rw [z3]; omega, ?_⟩
      (conv => whnf)
      refine CallVC.pureF hquote rfl ?_
      (conv => whnf)
      refine ⟨by rw [ByteArray.size_append, z3, hqs]; omega, ?_⟩
      (conv => whnf)
      refine ⟨by rw [ByteArray.size_append, ByteArray.size_append, z3, z4, hqs]; omega, ?_⟩
      (conv => whnf)
      refine CallVC.pureF c3 rfl ?_
      repeat' ((conv => whnf); first | refine splitB_t rfl ?_ | refine splitB_f rfl ?_ | refine splitB_t (beq_self_eq_true _) ?_ | refine CallVC.pureF hw rfl ?_ | refine CallD.pureF hw rfl ?_ | refine CallVC.pureF g1 rfl ?_ | refine CallD.pureF g1 rfl ?_ | refine ⟨_, ⟨by decide, rfl⟩, ?_⟩ | refine ⟨rfl, _, ⟨by decide, rfl⟩, ?_⟩ | exact ⟨rfl, rfl⟩ | done)
    · have hread : readC ((⟨#[40]⟩ ++ a) ++ ⟨#[10, 41]⟩) (fun L => exprC L 801 1 ⟨0, 0⟩) = some (.err (placeC (⟨6, ⟨#[40]⟩, 0, 1⟩ :: (L.map (shT 1) ++ [⟨6, ⟨#[41]⟩, a.size + 2, a.size + 3⟩])) ((⟨#[40]⟩ ++ a) ++ ⟨#[10, 41]⟩ : ByteArray).size s') 3) := by
        unfold readC
        rw [hT2]
        simp only [p2]
        rfl
      have c2 := Expr_spec _ hsz2 801 hread
      (conv => whnf)
      refine ⟨by rw [z1]; omega, ?_⟩
      (conv => whnf)
      refine ⟨by rw [ByteArray.size_append, z1, z2]; omega, ?_⟩
      (conv => whnf)
      refine CallVC.pureF c2 rfl ?_
      repeat' ((conv => whnf); first | refine splitB_t rfl ?_ | refine splitB_f rfl ?_ | refine CallVC.pureF hw rfl ?_ | exact ⟨rfl, rfl⟩ | done)

end Go.Proofs.Ytemfnlidinnniaa.AD
