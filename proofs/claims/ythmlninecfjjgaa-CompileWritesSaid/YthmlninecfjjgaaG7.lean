/- Chapter 22: Decode of a program's bytes is the program. -/
import Derived.Test.YthmlninecfjjgaaG6
namespace Go.Proofs.Ythmlninecfjjgaa.AD
open Go.Proofs
set_option linter.unusedVariables false
set_option linter.unusedSimpArgs false
set_option maxRecDepth 100000

def rdr (B : List PV) (p : Nat) : Ob := .cells [.p (.list 1 B), .p (.int .i64 p), .p (.int .i64 0), .p (.int .i64 0)]

theorem number_to (n most : Int) (B Y : List PV) (p q : Nat) (h0 : 0 ≤ n) (h1 : n ≤ most) (h2 : most ≤ 2147483647) (hB : B.drop p = numP 5 n ++ Y) (hl : B.length ≤ 1048576) (hq : q = p + (numP 5 n).length) :
    Meth Try.prog 71 [.ref (.b 0) 0, .p (.int .i64 most)] [rdr B p] (.int .i64 n) [rdr B q] := by
  have := number_at n most B Y p h0 h1 h2 hB (by omega)
  rw [hq, rdr, rdr]; push_cast; exact this
theorem text_to (t : ByteArray) (B Y : List PV) (p q : Nat) (hB : B.drop p = numP 5 t.size ++ (byteInts t ++ Y)) (hl : B.length ≤ 1048576) (hq : q = p + (numP 5 t.size).length + t.size) :
    Meth Try.prog 72 [.ref (.b 0) 0] [rdr B p] (.str t) [rdr B q] := by
  have := text_at t B Y p hB hl
  rw [hq, rdr, rdr]; push_cast; exact this
theorem octet_to (g : Nat) (c : Int) (B Y : List PV) (p : Nat) (hen : enters Try.prog g = true) (h : pureF Try.prog g [.p (.int .u8 c)] (.p (.bool true))) (hB : B.drop p = .int .u8 c :: Y) (hl : B.length ≤ 1048576) :
    Meth Try.prog 69 [.ref (.b 0) 0, .p (.fn (.func g))] [rdr B p] (.int .u8 c) [rdr B (p + 1)] := octet_pure g c B p hen h (get_drop hB).1 (by omega)
theorem octet_is_to (c : Int) (B Y : List PV) (p : Nat) (hB : B.drop p = .int .u8 c :: Y) (hl : B.length ≤ 1048576) :
    Meth Try.prog 69 [.ref (.b 0) 0, .clos (.func 68) [] [.ref (.b 1) 0]] [rdr B p, .cells [.p (.int .u8 c)]] (.int .u8 c) [rdr B (p + 1), .cells [.p (.int .u8 c)]] := octet_is c B p (get_drop hB).1 (by omega)
theorem drop_app {α : Type} {B X Y : List α} {p q : Nat} (h : B.drop p = X ++ Y) (hq : q = p + X.length) : B.drop q = Y := by
  rw [hq, ← List.drop_drop, h, List.drop_left]

def zeroPg : Ob := .cells [.p (.int .u8 0), .p .nils, .p .nils, .p (.int .i64 0)]
/-- What Decode has at hand. -/
def decOs (B : List PV) (q : Nat) (κ S : Int) (g : Nat) (ts : List ByteArray) (g' : Nat) (cs : List Ins) : List Ob :=
  [zeroPg, rdr B q, .cells [.p (.int .u8 86)], .cells [.p (.int .u8 80)], .cells [.p (.int .u8 κ), .view (.l 5) g 1 ts.length, .view (.l 6) g' 3 cs.length, .p (.int .i64 S)], .buf g 1 (tP ts), .buf g' 3 (cP cs)]

/-- The second loop, and the end. -/
theorem dec_codes (κ : Int) (T : List ByteArray) (C : List Ins) (S : Int) (B : List PV) (hl : B.length ≤ 1048576) (hTl : T.length ≤ 8192) (hCl : C.length ≤ 32768) (hok : C.all insOk = true) (g q : Nat) (hB : B.drop q = numP 5 C.length ++ codeP C)
    (K : AV → List Ob → List Ob → Prop) (h : ∀ g2 q2 X, K (.tup [.agg [.p (.int .u8 κ), .view (.l 5) g 1 T.length, .view (.l 6) g2 3 C.length, .p (.int .i64 S)], .p (.int .i64 0), .p (.int .i64 0)]) []
      ([.cells [.p (.int .u8 κ), .view (.l 5) g 1 T.length, .view (.l 6) g2 3 C.length, .p (.int .i64 S)], rdr B q2, .cells [.p (.int .u8 86)], .cells [.p (.int .u8 80)], .cells [.p (.int .u8 κ), .view (.l 5) g 1 T.length, .view (.l 6) g2 3 C.length, .p (.int .i64 S)], .buf g 1 (tP T), .buf g2 3 (cP C)] ++ X)) :
    W Try.prog g46.c58 [(0, .p (.list 1 B)), (2, .ref (.l 0) 0), (5, .ref (.l 1) 0), (7, .ref (.l 4) 0)] [] (decOs B q κ S g T 0 []) (endI g46 K) := by
  (conv => whnf)
  refine CallVC.methM' [1, 0, 2, 3, 4, 5, 6] 7 (decOs B (q + (numP 5 C.length).length) κ S g T 0 []) (number_to C.length 32768 B (codeP C) q _ (by omega) (by omega) (by omega) hB hl rfl) rfl rfl rfl rfl rfl (by decide) (by decide) rfl ?_
  have hB2 := drop_app hB rfl
  generalize q + (numP 5 C.length).length = q at hB2 ⊢
  (conv => whnf)
  intro R hR
  have key : ∀ (rest cs : List Ins) (g' q : Nat) (m : Int), m = rest.length → C = cs ++ rest → B.drop q = codeP rest → R [(0, .p (.list 1 B)), (2, .ref (.l 0) 0), (5, .ref (.l 1) 0), (7, .ref (.l 4) 0), (9, .p (.int .i64 m))] [] (decOs B q κ S g T g' cs) := by
    intro rest
    induction rest with
    | nil =>
      intro cs g' q m hm hC hB
      simp only [List.length_cons, List.length_nil] at hm
      rw [List.append_nil] at hC
      subst hC
      have hq := drop_nil hB
      refine hR _ _ _ ?_
      (conv => whnf)
      refine splitB_f (decide_eq_false (by omega)) ?_
      (conv => whnf)
      refine splitB_f rfl ?_
      (conv => whnf)
      refine splitB_f (decide_eq_false (by omega)) ?_
      (conv => whnf)
      refine splitB_f rfl ?_
      (conv => whnf)
      exact h g' q []
    | cons x r ih =>
      intro cs g' q m hm hC hB
      simp only [List.length_cons, List.length_nil] at hm
      have hx : insOk x = true := by
        rw [List.all_eq_true] at hok
        exact hok x (by rw [hC]; simp)
      obtain ⟨⟨a1, a2⟩, b1, b2⟩ := insOk_fits hx
      have hop : 1 ≤ x.op ∧ x.op ≤ 38 := by simp only [insOk, Bool.and_eq_true, decide_eq_true_eq] at hx; omega
      have hz : (hasA x.op = false → x.a = 0) ∧ (hasB x.op = false → x.b = 0) := by
        simp only [insOk, Bool.and_eq_true, Bool.or_eq_true, decide_eq_true_eq] at hx
        exact ⟨fun e => by rw [e] at hx; simpa using hx.1.2, fun e => by rw [e] at hx; simpa using hx.2⟩
      have ho := codeOf_spec x.op
      have hA : (IntKind.u8.wrap (BitVec.ofInt IntKind.u8.bits (shp x.op) &&& BitVec.ofInt IntKind.u8.bits 1).toNat != 0) = hasA x.op := shp_and1 x.op
      have hBb : (IntKind.u8.wrap (BitVec.ofInt IntKind.u8.bits (shp x.op) &&& BitVec.ofInt IntKind.u8.bits 2).toNat != 0) = hasB x.op := shp_and2 x.op
      have hcl := congrArg List.length hC
      simp only [List.length_append, List.length_cons] at hcl
      have hB : B.drop q = .int .u8 x.op :: ((if hasA x.op then numP 5 x.a else []) ++ ((if hasB x.op then numP 5 x.b else []) ++ codeP r)) := hB
      refine hR _ _ _ ?_
      (conv => whnf)
      refine splitB_t (decide_eq_true (by omega)) ?_
      (conv => whnf)
      refine splitB_t rfl ?_
      (conv => whnf)
      refine CallVC.methM' [1, 0, 2, 3, 4, 5, 6] 7 (decOs B (q + 1) κ S g T g' cs) (octet_to _ x.op B _ q (by kernel_rfl) (isOp_spec _ hop) hB hl) rfl rfl rfl rfl rfl (by decide) (by decide) rfl ?_
      (conv => whnf)
      have hB1 := (get_drop hB).2
      generalize q + 1 = q1 at hB1 ⊢
      generalize hva : hasA x.op = va at hA hB1 hz
      generalize hvb : hasB x.op = vb at hBb hB1 hz
      refine CallVC.pureF ho rfl ?_
      (conv => whnf)
      rw [hA]
      cases va <;> cases vb
      all_goals simp only [Bool.false_eq_true, if_false, if_true, List.nil_append] at hB1
      · have ea : x.a = 0 := hz.1 rfl
        have eb : x.b = 0 := hz.2 rfl
        refine splitB_f rfl ?_
        (conv => whnf)
        refine CallVC.pureF ho rfl ?_
        (conv => whnf)
        rw [hBb]
        refine splitB_f rfl ?_
        (conv => whnf)
        refine ⟨rfl, ?_⟩
        (conv => whnf)
        refine ⟨⟨rfl, rfl, rfl, by simp [cP]⟩, by simp [room]; omega, cP (cs ++ [x]), by rw [List.take_of_length_le (by simp [cP])]; simp [cP, insP, ea, eb], ?_⟩
        (conv => whnf)
        rw [IntWalk.i64_in (m - 1) (by omega)]
        have q9 := ih (cs ++ [x]) (g' + 1) _ (m - 1) (by omega) (by rw [hC]; simp) hB1
        simp only [decOs, List.length_append, List.length_cons, List.length_nil] at q9
        exact q9
      · have ea : x.a = 0 := hz.1 rfl
        refine splitB_f rfl ?_
        (conv => whnf)
        refine CallVC.pureF ho rfl ?_
        (conv => whnf)
        rw [hBb]
        refine splitB_t rfl ?_
        (conv => whnf)
        have hB2 := drop_app hB1 rfl
        refine CallVC.methM' [1, 0, 2, 3, 4, 5, 6, 7] 8 (decOs B (q1 + (numP 5 x.b).length) κ S g T g' cs ++ [.cells [.p (.int .u8 x.op), .p (.int .i64 0), .p (.int .i64 0)]]) (number_to x.b 2147483647 B (codeP r) q1 _ b1 b2 (by omega) hB1 hl rfl) rfl rfl rfl rfl rfl (by decide) (by decide) rfl ?_
        (conv => whnf)
        refine ⟨rfl, ?_⟩
        (conv => whnf)
        refine ⟨⟨rfl, rfl, rfl, by simp [cP]⟩, by simp [room]; omega, cP (cs ++ [x]), by rw [List.take_of_length_le (by simp [cP])]; simp [cP, insP, ea], ?_⟩
        (conv => whnf)
        rw [IntWalk.i64_in (m - 1) (by omega)]
        have q9 := ih (cs ++ [x]) (g' + 1) _ (m - 1) (by omega) (by rw [hC]; simp) hB2
        simp only [decOs, List.length_append, List.length_cons, List.length_nil] at q9
        exact q9
      · have eb : x.b = 0 := hz.2 rfl
        refine splitB_t rfl ?_
        (conv => whnf)
        have hB2 := drop_app hB1 rfl
        refine CallVC.methM' [1, 0, 2, 3, 4, 5, 6, 7] 8 (decOs B (q1 + (numP 5 x.a).length) κ S g T g' cs ++ [.cells [.p (.int .u8 x.op), .p (.int .i64 0), .p (.int .i64 0)]]) (number_to x.a 2147483647 B (codeP r) q1 _ a1 a2 (by omega) hB1 hl rfl) rfl rfl rfl rfl rfl (by decide) (by decide) rfl ?_
        (conv => whnf)
        refine CallVC.pureF ho rfl ?_
        (conv => whnf)
        rw [hBb]
        refine splitB_f rfl ?_
        (conv => whnf)
        refine ⟨rfl, ?_⟩
        (conv => whnf)
        refine ⟨⟨rfl, rfl, rfl, by simp [cP]⟩, by simp [room]; omega, cP (cs ++ [x]), by rw [List.take_of_length_le (by simp [cP])]; simp [cP, insP, eb], ?_⟩
        (conv => whnf)
        rw [IntWalk.i64_in (m - 1) (by omega)]
        have q9 := ih (cs ++ [x]) (g' + 1) _ (m - 1) (by omega) (by rw [hC]; simp) hB2
        simp only [decOs, List.length_append, List.length_cons, List.length_nil] at q9
        exact q9
      · refine splitB_t rfl ?_
        (conv => whnf)
        have hB2 := drop_app hB1 rfl
        refine CallVC.methM' [1, 0, 2, 3, 4, 5, 6, 7] 8 (decOs B (q1 + (numP 5 x.a).length) κ S g T g' cs ++ [.cells [.p (.int .u8 x.op), .p (.int .i64 0), .p (.int .i64 0)]]) (number_to x.a 2147483647 B _ q1 _ a1 a2 (by omega) hB1 hl rfl) rfl rfl rfl rfl rfl (by decide) (by decide) rfl ?_
        (conv => whnf)
        refine CallVC.pureF ho rfl ?_
        (conv => whnf)
        rw [hBb]
        refine splitB_t rfl ?_
        (conv => whnf)
        have hB3 := drop_app hB2 rfl
        refine CallVC.methM' [1, 0, 2, 3, 4, 5, 6, 7] 8 (decOs B (q1 + (numP 5 x.a).length + (numP 5 x.b).length) κ S g T g' cs ++ [.cells [.p (.int .u8 x.op), .p (.int .i64 x.a), .p (.int .i64 0)]]) (number_to x.b 2147483647 B (codeP r) _ _ b1 b2 (by omega) hB2 hl rfl) rfl rfl rfl rfl rfl (by decide) (by decide) rfl ?_
        (conv => whnf)
        refine ⟨rfl, ?_⟩
        (conv => whnf)
        refine ⟨⟨rfl, rfl, rfl, by simp [cP]⟩, by simp [room]; omega, cP (cs ++ [x]), by rw [List.take_of_length_le (by simp [cP])]; simp [cP, insP], ?_⟩
        (conv => whnf)
        rw [IntWalk.i64_in (m - 1) (by omega)]
        have q9 := ih (cs ++ [x]) (g' + 1) _ (m - 1) (by omega) (by rw [hC]; simp) hB3
        simp only [decOs, List.length_append, List.length_cons, List.length_nil] at q9
        exact q9
  exact key C [] 0 q _ rfl rfl hB2

theorem Decode_pure (κ : Int) (T : List ByteArray) (C : List Ins) (S : Int) (h : errP κ T C S = 0) : pureF Try.prog 46 [.p (.list 1 (encP κ T C S))] (.p (.tup [encPg κ T C S, .int .i64 0, .int .i64 0])) := by
  refine pureF_fresh (ps := [.list 1 (encP κ T C S)]) ?_
  have hlim : ¬ (32768 < C.length ∨ 8192 < T.length) := fun e => by rw [errP, if_pos e] at h; cases h
  have hbad : ¬ ((κ ≠ 1 ∧ κ ≠ 2) ∨ fitsB S = false ∨ C.all insOk = false) := fun e => by rw [errP, if_neg hlim, if_pos e] at h; cases h
  have hsm : ¬ 1048576 < hdSz T C S + codeSz C + txtSz T := fun e => by rw [errP, if_neg hlim, if_neg hbad, if_pos e] at h; cases h
  have hκ : κ = 1 ∨ κ = 2 := by omega
  have hS : fitsB S = true := by cases hq : fitsB S with | true => rfl | false => exact absurd (.inr (.inl hq)) hbad
  have hall : C.all insOk = true := by cases hq : C.all insOk with | true => rfl | false => exact absurd (.inr (.inr hq)) hbad
  have hS' : 0 ≤ S ∧ S ≤ 2147483647 := by simpa [fitsB] using hS
  have hlen := encP_len κ T C S
  have hB0 : (encP κ T C S).drop 0 = .int .u8 86 :: .int .u8 80 :: .int .u8 κ :: (numP 5 S ++ (numP 5 T.length ++ (txtP T ++ (numP 5 C.length ++ codeP C)))) := rfl
  generalize encP κ T C S = B at hlen hB0 ⊢
  have hl : B.length ≤ 1048576 := by omega
  have hB1 := (get_drop hB0).2
  have hB2 := (get_drop hB1).2
  have hB3 := (get_drop hB2).2
  have hB4 := drop_app hB3 rfl
  have hB5 := drop_app hB4 rfl
  generalize hp4 : 0 + 1 + 1 + 1 + (numP 5 S).length = p4 at hB4 hB5
  generalize hp5 : p4 + (numP 5 (T.length : Int)).length = p5 at hB5
  refine CallVC.inline g46_ok ?_
  (conv => whnf)
  refine splitB_f (decide_eq_false (by omega)) ?_
  (conv => whnf)
  refine ⟨by kernel_rfl, ?_⟩
  (conv => whnf)
  refine CallVC.inline f67_ok ?_
  (conv => whnf)
  refine CallVC.methM' [1, 2, 0] 3 [zeroPg, rdr B 1, .cells [.p (.int .u8 86)]] (octet_is_to 86 B _ 0 hB0 hl) rfl rfl rfl rfl rfl (by decide) (by decide) rfl ?_
  (conv => whnf)
  refine ⟨by kernel_rfl, ?_⟩
  (conv => whnf)
  refine CallVC.inline f67_ok ?_
  (conv => whnf)
  refine CallVC.methM' [1, 3, 0, 2] 4 [zeroPg, rdr B 2, .cells [.p (.int .u8 86)], .cells [.p (.int .u8 80)]] (octet_is_to 80 B _ 1 hB1 hl) rfl rfl rfl rfl rfl (by decide) (by decide) rfl ?_
  (conv => whnf)
  refine CallVC.methM' [1, 0, 2, 3, 4] 5 [zeroPg, rdr B 3, .cells [.p (.int .u8 86)], .cells [.p (.int .u8 80)], zeroPg] (octet_to _ κ B _ 2 (by kernel_rfl) (isKind_spec κ hκ) hB2 hl) rfl rfl rfl rfl rfl (by decide) (by decide) rfl ?_
  (conv => whnf)
  refine CallVC.methM' [1, 0, 2, 3, 4] 5 [zeroPg, rdr B p4, .cells [.p (.int .u8 86)], .cells [.p (.int .u8 80)], .cells [.p (.int .u8 κ), .p .nils, .p .nils, .p (.int .i64 0)]] (number_to S 2147483647 B _ 3 p4 hS'.1 hS'.2 (by omega) hB3 hl (by omega)) rfl rfl rfl rfl rfl (by decide) (by decide) rfl ?_
  (conv => whnf)
  refine CallVC.ghost 4 1 1 rfl rfl ?_
  refine CallVC.ghost 4 2 3 rfl rfl ?_
  refine CallVC.methM' [1, 0, 2, 3, 4, 5, 6] 7 (decOs B p5 κ S 0 [] 0 []) (number_to T.length 8192 B _ p4 p5 (by omega) (by omega) (by omega) hB4 hl (by omega)) rfl rfl rfl rfl rfl (by decide) (by decide) rfl ?_
  (conv => whnf)
  intro R hR
  have key : ∀ (rest ts : List ByteArray) (g q : Nat) (m : Int), m = rest.length → T = ts ++ rest → B.drop q = txtP rest ++ (numP 5 C.length ++ codeP C) → R [(0, .p (.list 1 B)), (2, .ref (.l 0) 0), (5, .ref (.l 1) 0), (7, .ref (.l 4) 0), (8, .p (.int .i64 m))] [] (decOs B q κ S g ts 0 []) := by
    intro rest
    induction rest with
    | nil =>
      intro ts g q m hm hT hB
      simp only [List.length_nil] at hm
      rw [List.append_nil] at hT
      subst hT
      refine hR _ _ _ ?_
      (conv => whnf)
      refine splitB_f (decide_eq_false (by omega)) ?_
      (conv => whnf)
      refine splitB_f rfl ?_
      (conv => whnf)
      have q9 := dec_codes κ T C S B hl (by omega) (by omega) hall g q hB (fun r b l => LendF l r (.tup [encPg κ T C S, .int .i64 0, .int .i64 0])) fun g2 q2 X => ?_
      · (conv at q9 => whnf)
        exact q9
      refine .tup _ _ rfl fun n c p hc hp => ?_
      match n, hc, hp with
      | 0, hc, hp =>
        cases hc; cases hp
        refine .agg _ _ rfl fun n c p hc hp => ?_
        match n, hc, hp with
        | 0, hc, hp => cases hc; cases hp; exact .p _ (.int _ _)
        | 1, hc, hp => cases hc; cases hp; exact .view _ _ _ _ _ rfl (tP_len T).symm (tP_flat T)
        | 2, hc, hp => cases hc; cases hp; exact .view _ _ _ _ _ rfl (cP_len C).symm (cP_flat C)
        | 3, hc, hp => cases hc; cases hp; exact .p _ (.int _ _)
      | 1, hc, hp => cases hc; cases hp; exact .p _ (.int _ _)
      | 2, hc, hp => cases hc; cases hp; exact .p _ (.int _ _)
    | cons t r ih =>
      intro ts g q m hm hT hB
      simp only [List.length_cons] at hm
      have htl := congrArg List.length hT
      simp only [List.length_append, List.length_cons] at htl
      have hB : B.drop q = numP 5 t.size ++ (byteInts t ++ (txtP r ++ (numP 5 C.length ++ codeP C))) := by rw [hB]; simp [txtP]
      have hq := drop_app (drop_app hB rfl) rfl
      rw [byteInts_len] at hq
      refine hR _ _ _ ?_
      (conv => whnf)
      refine splitB_t (decide_eq_true (by omega)) ?_
      (conv => whnf)
      refine splitB_t rfl ?_
      (conv => whnf)
      refine CallE.mk ⟨_, _, _, CallVC.methM' [1, 0, 2, 3, 4, 5, 6] 7 (decOs B (q + (numP 5 t.size).length + t.size) κ S g ts 0 []) (text_to t B _ q _ hB hl rfl) rfl rfl rfl rfl rfl (by decide) (by decide) rfl ⟨rfl, rfl, rfl⟩, ?_⟩
      (conv => whnf)
      refine ⟨rfl, ?_⟩
      (conv => whnf)
      refine ⟨rfl, ?_⟩
      (conv => whnf)
      refine ⟨rfl, ?_⟩
      (conv => whnf)
      refine ⟨⟨rfl, rfl, rfl, by simp [tP]⟩, by simp [room]; omega, tP (ts ++ [t]), by rw [List.take_of_length_le (by simp [tP])]; simp [tP], ?_⟩
      (conv => whnf)
      rw [IntWalk.i64_in (m - 1) (by omega)]
      have q9 := ih (ts ++ [t]) (g + 1) _ (m - 1) (by omega) (by rw [hT]; simp) hq
      simp only [decOs, List.length_append, List.length_cons, List.length_nil] at q9
      exact q9
  exact key T [] 0 p5 _ rfl rfl hB5

end Go.Proofs.Ythmlninecfjjgaa.AD

namespace Go.Proofs.Ythmlninecfjjgaa.AD
open Go.Proofs
set_option linter.unusedVariables false
set_option linter.unusedSimpArgs false
set_option maxRecDepth 100000

theorem back_spec (κ : Int) (T : List ByteArray) (C : List Ins) (S : Int) (h : errP κ T C S = 0) (hTl : T.length ≤ 1000000000) (hCl : C.length ≤ 1000000000) : pureF Try.prog 25 [.p (encPg κ T C S), .p (.int .u8 κ)] (.p (.bool true)) := by
  refine pureF_of f25_ok fun H => ?_
  have hE := Encode_pure κ T C S h
  have hD := Decode_pure κ T C S h
  have hC := codeCheck_spec κ T C S hTl hCl
  rw [h] at hC
  have hS := SameProgram_spec κ T C S hTl hCl
  (conv => whnf)
  refine CallVC.pureF hE rfl ?_
  (conv => whnf)
  refine CallVC.pureF hD rfl ?_
  (conv => whnf)
  refine splitB_t (by simp) ?_
  (conv => whnf)
  refine CallVC.pureF hC rfl ?_
  repeat' ((conv => whnf); first | refine splitB_t rfl ?_ | refine splitB_f rfl ?_ | refine CallVC.pureF hS rfl ?_ | done)
  (conv => whnf)
  exact ⟨rfl, rfl⟩

set_option maxHeartbeats 4000000 in
theorem CompileWrites_spec (l : List Cl) (e : Li) (hl : (l.length : Int) ≤ 9223372036854775807) (hf : ∀ c, c ∈ l → FitsC c) (hfit : FitsL e) : pureF Try.prog 7 [.p (.list 8 (encCs l)), .p (encL e)] (.p (.bool true)) := by
  refine pureF_of f7_ok fun H => ?_
  have hlw := Weights_spec l hl hf 20000 (by omega) (by omega)
  have hlw2 := LicWeight_spec e hfit 20000 (by omega) (by omega)
  have hw := works_spec
  have hck := licsCheck_spec e hfit
  have hcl := Clauses_spec l hl hf
  have few := fewL_of e 20000 (by omega) (by omega)
  have hlp := Lics_pure e hfit
  have hbnd := finL_bounds e
  have hok2 := lics_ok e
  have B : lcnt e ≤ 20000 → (licsR e = .tup [nilPg, .int .i64 3]) ∨ (licsR e = .tup [nilPg, .int .i64 151] ∧ chkLi e = false) ∨ (licsR e = .tup [encPg 2 (finL e).T (finL e).C (finL e).S, .int .i64 0] ∧ chkLi e = true ∧ errP 2 (finL e).T (finL e).C (finL e).S = 0) := fun hcnt => by
    unfold licsR
    by_cases h1 : chkLi e = true
    · rw [if_pos h1]
      by_cases h2 : limB 2 (finL e)
      · rw [if_pos h2]; exact .inl rfl
      · rw [if_neg h2]; exact .inr (.inr ⟨rfl, h1, hok2 h1 hcnt h2⟩)
    · rw [if_neg h1]
      exact .inr (.inl ⟨rfl, by simpa using h1⟩)
  generalize finL e = b2 at B hbnd
  generalize licsR e = r2 at hlp B
  have hbk2 : lcnt e ≤ 20000 → errP 2 b2.T b2.C b2.S = 0 → pureF Try.prog 25 [.p (encPg 2 b2.T b2.C b2.S), .p (.int .u8 2)] (.p (.bool true)) := fun hcnt h => back_spec 2 _ _ _ h (by have := hbnd hcnt; omega) (by have := hbnd hcnt; omega)
  obtain ⟨o, t, k, xs⟩ := e
  (conv => whnf)
  refine CallVC.pureF hlw rfl ?_
  (conv => whnf)
  refine splitB_dec (fun h => ?_) (fun h => ?_)
  · (conv => whnf)
    refine splitB_t rfl ?_
    (conv => whnf)
    refine CallVC.pureF hw rfl ?_
    exact ⟨rfl, rfl⟩
  (conv => whnf)
  refine CallVC.pureF hlw2 rfl ?_
  (conv => whnf)
  refine splitB_dec (fun h2 => ?_) (fun h2 => ?_)
  · (conv => whnf)
    refine CallVC.pureF hw rfl ?_
    exact ⟨rfl, rfl⟩
  obtain ⟨few1, few2, few3⟩ := fewDs_of l 20000 (by omega) (by omega)
  obtain ⟨few4, few5⟩ := few (by omega)
  have hcnt : lcnt (.mk o t k xs) ≤ 20000 := by omega
  replace hlp := hlp hcnt
  replace hbk2 := hbk2 hcnt
  replace B := B hcnt
  have hcp := Conds_pure l hl hf few3
  have A : (condsR l = .tup [nilPg, .int .i64 3]) ∨ (condsR l = .tup [nilPg, .int .i64 151] ∧ clsT l = 151) ∨ (condsR l = .tup [nilPg, .int .i64 200] ∧ clsT l = 200) ∨ (condsR l = .tup [encPg 1 (finC l).T (finC l).C (finC l).S, .int .i64 0] ∧ clsT l = 0 ∧ pureF Try.prog 25 [.p (encPg 1 (finC l).T (finC l).C (finC l).S), .p (.int .u8 1)] (.p (.bool true))) := by
    unfold condsR
    by_cases h1 : clsT l = 0
    · rw [if_pos h1]
      by_cases h2 : limB 1 (finC l)
      · rw [if_pos h2]; exact .inl rfl
      · rw [if_neg h2]
        have hck : checkL l = true := by
          have h0 := h1
          rw [clsT] at h0
          split at h0
          · assumption
          · cases h0
        obtain ⟨hBT, hBC⟩ := finC_bounds l hck few3
        exact .inr (.inr (.inr ⟨rfl, h1, back_spec 1 _ _ _ (conds_ok l hck few3 h2) (by omega) (by omega)⟩))
    · rw [if_neg h1]
      have : clsT l = 151 ∨ clsT l = 200 := by
        unfold clsT at h1 ⊢
        split
        · rename_i h0; rw [if_pos h0] at h1
          split
          · rename_i h3; rw [if_pos h3] at h1; exact absurd rfl h1
          · exact .inr rfl
        · exact .inl rfl
      rcases this with h3 | h3
      · rw [h3]; exact .inr (.inl ⟨rfl, rfl⟩)
      · rw [h3]; exact .inr (.inr (.inl ⟨rfl, rfl⟩))
  (conv => whnf)
  refine CallVC.pureF hcp rfl ?_
  rcases A with A | ⟨A, hA⟩ | ⟨A, hA⟩ | ⟨A, hA, hbk1⟩
  all_goals
    rw [A]
    first | rw [hA] at hcl | skip
    (conv => whnf)
    refine CallVC.pureF hlp rfl ?_
    rcases B with B | ⟨B, hB⟩ | ⟨B, hB, hB2⟩
    all_goals
      rw [B]
      first | rw [hB] at hck | skip
      first | have hbk3 := hbk2 hB2 | skip
      repeat' ((conv => whnf); first | refine splitB_t rfl ?_ | refine splitB_f rfl ?_ | refine CallVC.pureF hcl rfl ?_ | refine CallVC.pureF hck rfl ?_ | refine CallVC.pureF hbk1 rfl ?_ | refine CallVC.pureF hbk3 rfl ?_ | refine CallVC.pureF hw rfl ?_ | done)
      (conv => whnf)
      exact ⟨rfl, rfl⟩

end Go.Proofs.Ythmlninecfjjgaa.AD
