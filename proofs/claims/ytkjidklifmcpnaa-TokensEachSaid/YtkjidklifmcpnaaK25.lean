/- Chapter 14: the law TokensEach of the code. -/
import Derived.Test.YtkjidklifmcpnaaK24
import Derived.Test.YtkjidklifmcpnaaK13
namespace Go.Proofs.Ytkjidklifmcpnaa.AD
open Go.Proofs
set_option linter.unusedVariables false
set_option linter.unusedSimpArgs false
set_option maxRecDepth 100000

theorem TokensEach_spec (s : ByteArray) (stop : Int) (hsz : (s.size : Int) ≤ 9223372036854775807) (hst : -9223372036854775808 ≤ stop ∧ stop ≤ 9223372036854775807) : pureF Try.prog 6 [.p (.str s), .p (.int .i64 stop)] (.p (.bool true)) := by
  refine pureF_of f6_ok fun H => ?_
  have hT := Tokens_spec s hsz
  have hRT := rTokens_spec s hsz
  have hw := works_spec
  cases hR : tokensR s with
  | err p e =>
    rw [hR] at hT hRT
    (conv => whnf)
    refine CallVC.pureF hRT rfl ?_
    (conv => whnf)
    refine CallVC.inline f15_ok ?_
    (conv => whnf)
    refine splitB_f rfl ?_
    (conv => whnf)
    refine ⟨rfl, ?_⟩
    (conv => whnf)
    intro L r hY
    (conv => whnf)
    refine ⟨by kernel_rfl, ?_⟩
    refine CallVC.inline f23_ok ?_
    (conv => whnf)
    refine CallVC.pureF hT rfl ?_
    (conv => whnf)
    intro R hR2
    refine hR2 _ _ _ ?_
    (conv => whnf)
    refine splitB_f rfl ?_
    (conv => whnf)
    refine ⟨⟨rfl, rfl⟩, ?_⟩
    (conv => whnf)
    refine splitB_f rfl ?_
    repeat' ((conv => whnf); first | refine splitB_t rfl ?_ | refine splitB_f rfl ?_ | done)
    (conv => whnf)
    refine ⟨rfl, ?_⟩
    (conv => whnf)
    intro L' r' hY'
    (conv => whnf)
    refine ⟨by kernel_rfl, ?_⟩
    refine CallVC.inline f23_ok ?_
    (conv => whnf)
    refine CallVC.pureF hT rfl ?_
    (conv => whnf)
    intro R' hR3
    refine hR3 _ _ _ ?_
    (conv => whnf)
    refine splitB_f rfl ?_
    (conv => whnf)
    refine ⟨⟨rfl, rfl⟩, ?_⟩
    (conv => whnf)
    refine splitB_t rfl ?_
    (conv => whnf)
    refine CallVC.pureF hw rfl ?_
    (conv => whnf)
    exact ⟨rfl, rfl⟩
  | ok l =>
    rw [hR] at hT hRT
    (conv => whnf)
    refine CallVC.pureF hRT rfl ?_
    (conv => whnf)
    refine CallVC.inline f15_ok ?_
    (conv => whnf)
    refine splitB_f rfl ?_
    (conv => whnf)
    refine ⟨rfl, ?_⟩
    (conv => whnf)
    intro L r hY
    (conv => whnf)
    refine ⟨by kernel_rfl, ?_⟩
    refine CallVC.inline f23_ok ?_
    (conv => whnf)
    refine CallVC.pureF hT rfl ?_
    (conv => whnf)
    intro R hR2
    have hml : (l.map tkP).length = l.length := List.length_map _
    have hll := tokensR_len hR
    -- behind the first loop
    have second : ∀ n : Nat, n = l.length ∨ (n : Int) = stop → W Try.prog f6.c39 [(3, .ref (.l 0) 0), (4, .ref (.l 1) 0), (5, .ref (.l 2) 0), (8, .clos (Fn.func 23) [] [.ref (.l 3) 0]), (9, .ref (.l 4) 0)] H
        [.cells [.p (.int .i64 stop)], .cells [.p (.bool false)], .cells [.p (.list 4 (l.map tkP))], .cells [.p (.str s)], .cells [.p (.int .i64 n)], .loop L r [3, 4, 5, 8, 9] [.ref (.l 0) 0, .ref (.l 1) 0, .ref (.l 2) 0, .clos (Fn.func 23) [] [.ref (.l 3) 0], .ref (.l 4) 0] .over]
        (endQ f6 fun r' H' => r' = .p (.bool true) ∧ H' = H) := by
      intro n hn
      have last : W Try.prog f6.c38 [(4, .ref (.l 1) 0), (5, .ref (.l 2) 0), (8, .clos (Fn.func 23) [] [.ref (.l 3) 0]), (9, .ref (.l 4) 0)] H
          [.cells [.p (.int .i64 stop)], .cells [.p (.bool false)], .cells [.p (.list 4 (l.map tkP))], .cells [.p (.str s)], .cells [.p (.int .i64 n)], .loop L r [3, 4, 5, 8, 9] [.ref (.l 0) 0, .ref (.l 1) 0, .ref (.l 2) 0, .clos (Fn.func 23) [] [.ref (.l 3) 0], .ref (.l 4) 0] .over]
          (endQ f6 fun r' H' => r' = .p (.bool true) ∧ H' = H) := by
        (conv => whnf)
        refine ⟨rfl, ?_⟩
        (conv => whnf)
        intro L' r' hY'
        (conv => whnf)
        refine ⟨by kernel_rfl, ?_⟩
        refine CallVC.inline f23_ok ?_
        (conv => whnf)
        refine CallVC.pureF hT rfl ?_
        (conv => whnf)
        intro R' hR3
        have key2 : ∀ (rest : List Tok) (i : Nat), l.drop i = rest → i ≤ l.length →
            R' [(0, .p (.fn (.yield L'))), (14, .p (.list 4 (l.map tkP))), (15, .p (.int .i64 (l.map tkP).length)), (16, .p (.int .i64 i))] H
              [.cells [.p (.int .i64 stop)], .cells [.p (.bool false)], .cells [.p (.list 4 (l.map tkP))], .cells [.p (.str s)], .cells [.p (.int .i64 i)], .loop L r [3, 4, 5, 8, 9] [.ref (.l 0) 0, .ref (.l 1) 0, .ref (.l 2) 0, .clos (Fn.func 23) [] [.ref (.l 3) 0], .ref (.l 4) 0] .over, .loop L' r' [4, 5, 9] [.ref (.l 1) 0, .ref (.l 2) 0, .ref (.l 4) 0] .ready] := by
          intro rest
          induction rest with
          | nil =>
            intro i hd hle
            have hi := drop_nil hd
            refine hR3 _ _ _ ?_
            (conv => whnf)
            refine splitB_f (decide_eq_false (by omega)) ?_
            (conv => whnf)
            refine ⟨⟨rfl, rfl⟩, ?_⟩
            (conv => whnf)
            refine splitB_t (beq_iff_eq.2 (by omega)) ?_
            (conv => whnf)
            refine CallVC.pureF hw rfl ?_
            (conv => whnf)
            exact ⟨rfl, rfl⟩
          | cons x rest ih =>
            intro i hd hle
            obtain ⟨hg, hd', hil⟩ := drop_cons hd
            refine hR3 _ _ _ ?_
            (conv => whnf)
            refine splitB_t (decide_eq_true (by omega)) ?_
            (conv => whnf)
            refine ⟨rfl, tkP x, ⟨by omega, by rw [Int.toNat_natCast, List.getElem?_map, hg]; rfl⟩, ?_⟩
            (conv => whnf)
            refine hY' [.int .i64 i, tkP x] _ _ _ ?_
            (conv => whnf)
            refine ⟨⟨rfl, rfl⟩, ?_⟩
            (conv => whnf)
            refine ⟨⟨rfl, rfl⟩, ?_⟩
            (conv => whnf)
            refine splitB_f (bne_eq_false_iff_eq.2 rfl) ?_
            (conv => whnf)
            refine splitB_f (decide_eq_false (by omega)) ?_
            repeat' ((conv => whnf); first | refine splitB_t rfl ?_ | refine splitB_f rfl ?_ | done)
            (conv => whnf)
            refine ⟨rfl, tkP x, ⟨by omega, by rw [Int.toNat_natCast, List.getElem?_map, hg]; rfl⟩, ?_⟩
            (conv => whnf)
            refine ⟨true, eqCells_tok _ _ _ _, ?_⟩
            repeat' ((conv => whnf); first | refine splitB_t rfl ?_ | refine splitB_f rfl ?_ | done)
            (conv => whnf)
            rw [IntWalk.i64_in _ (by omega)]
            refine ⟨⟨rfl, rfl⟩, ?_⟩
            (conv => whnf)
            refine splitB_f rfl ?_
            (conv => whnf)
            rw [IntWalk.i64_in ((i : Int) + 1) (by omega)]
            exact ih (i + 1) hd' (by omega)
        exact key2 l 0 rfl (by omega)
      (conv => whnf)
      refine splitB_ne (fun h1 => ?_) (fun h1 => ?_)
      · have h2 : (n : Int) = stop := by omega
        (conv => whnf)
        refine splitB_f (bne_eq_false_iff_eq.2 h2) ?_
        repeat' ((conv => whnf); first | refine splitB_t rfl ?_ | refine splitB_f rfl ?_ | done)
        have q := last
        (conv at q => whnf)
        (conv => whnf)
        exact q
      · repeat' ((conv => whnf); first | refine splitB_t rfl ?_ | refine splitB_f rfl ?_ | done)
        have q := last
        (conv at q => whnf)
        (conv => whnf)
        exact q
    -- behind the first loop, left early
    have secondG : ∀ (y : Tok) (n : Nat), n = l.length ∨ (n : Int) = stop → W Try.prog f6.c39 [(3, .ref (.l 0) 0), (4, .ref (.l 1) 0), (5, .ref (.l 2) 0), (8, .clos (Fn.func 23) [] [.ref (.l 3) 0]), (9, .ref (.l 4) 0)] H
        [.cells [.p (.int .i64 stop)], .cells [.p (.bool false)], .cells [.p (.list 4 (l.map tkP))], .cells [.p (.str s)], .cells [.p (.int .i64 n)], .loop L r [3, 4, 5, 8, 9] [.ref (.l 0) 0, .ref (.l 1) 0, .ref (.l 2) 0, .clos (Fn.func 23) [] [.ref (.l 3) 0], .ref (.l 4) 0] .over, .cells [.p (.int .u8 y.k), .p (.str y.t), .p (.int .i64 y.a), .p (.int .i64 y.e)], .cells [.p (.int .u8 y.k), .p (.str y.t), .p (.int .i64 y.a), .p (.int .i64 y.e)]]
        (endQ f6 fun r' H' => r' = .p (.bool true) ∧ H' = H) := by
      intro y n hn
      have last : W Try.prog f6.c38 [(4, .ref (.l 1) 0), (5, .ref (.l 2) 0), (8, .clos (Fn.func 23) [] [.ref (.l 3) 0]), (9, .ref (.l 4) 0)] H
          [.cells [.p (.int .i64 stop)], .cells [.p (.bool false)], .cells [.p (.list 4 (l.map tkP))], .cells [.p (.str s)], .cells [.p (.int .i64 n)], .loop L r [3, 4, 5, 8, 9] [.ref (.l 0) 0, .ref (.l 1) 0, .ref (.l 2) 0, .clos (Fn.func 23) [] [.ref (.l 3) 0], .ref (.l 4) 0] .over, .cells [.p (.int .u8 y.k), .p (.str y.t), .p (.int .i64 y.a), .p (.int .i64 y.e)], .cells [.p (.int .u8 y.k), .p (.str y.t), .p (.int .i64 y.a), .p (.int .i64 y.e)]]
          (endQ f6 fun r' H' => r' = .p (.bool true) ∧ H' = H) := by
        (conv => whnf)
        refine ⟨rfl, ?_⟩
        (conv => whnf)
        intro L' r' hY'
        (conv => whnf)
        refine ⟨by kernel_rfl, ?_⟩
        refine CallVC.inline f23_ok ?_
        (conv => whnf)
        refine CallVC.pureF hT rfl ?_
        (conv => whnf)
        intro R' hR3
        have key2 : ∀ (rest : List Tok) (i : Nat), l.drop i = rest → i ≤ l.length →
            R' [(0, .p (.fn (.yield L'))), (14, .p (.list 4 (l.map tkP))), (15, .p (.int .i64 (l.map tkP).length)), (16, .p (.int .i64 i))] H
              [.cells [.p (.int .i64 stop)], .cells [.p (.bool false)], .cells [.p (.list 4 (l.map tkP))], .cells [.p (.str s)], .cells [.p (.int .i64 i)], .loop L r [3, 4, 5, 8, 9] [.ref (.l 0) 0, .ref (.l 1) 0, .ref (.l 2) 0, .clos (Fn.func 23) [] [.ref (.l 3) 0], .ref (.l 4) 0] .over, .cells [.p (.int .u8 y.k), .p (.str y.t), .p (.int .i64 y.a), .p (.int .i64 y.e)], .cells [.p (.int .u8 y.k), .p (.str y.t), .p (.int .i64 y.a), .p (.int .i64 y.e)], .loop L' r' [4, 5, 9] [.ref (.l 1) 0, .ref (.l 2) 0, .ref (.l 4) 0] .ready] := by
          intro rest
          induction rest with
          | nil =>
            intro i hd hle
            have hi := drop_nil hd
            refine hR3 _ _ _ ?_
            (conv => whnf)
            refine splitB_f (decide_eq_false (by omega)) ?_
            (conv => whnf)
            refine ⟨⟨rfl, rfl⟩, ?_⟩
            (conv => whnf)
            refine splitB_t (beq_iff_eq.2 (by omega)) ?_
            (conv => whnf)
            refine CallVC.pureF hw rfl ?_
            (conv => whnf)
            exact ⟨rfl, rfl⟩
          | cons x rest ih =>
            intro i hd hle
            obtain ⟨hg, hd', hil⟩ := drop_cons hd
            refine hR3 _ _ _ ?_
            (conv => whnf)
            refine splitB_t (decide_eq_true (by omega)) ?_
            (conv => whnf)
            refine ⟨rfl, tkP x, ⟨by omega, by rw [Int.toNat_natCast, List.getElem?_map, hg]; rfl⟩, ?_⟩
            (conv => whnf)
            refine hY' [.int .i64 i, tkP x] _ _ _ ?_
            (conv => whnf)
            refine ⟨⟨rfl, rfl⟩, ?_⟩
            (conv => whnf)
            refine ⟨⟨rfl, rfl⟩, ?_⟩
            (conv => whnf)
            refine splitB_f (bne_eq_false_iff_eq.2 rfl) ?_
            (conv => whnf)
            refine splitB_f (decide_eq_false (by omega)) ?_
            repeat' ((conv => whnf); first | refine splitB_t rfl ?_ | refine splitB_f rfl ?_ | done)
            (conv => whnf)
            refine ⟨rfl, tkP x, ⟨by omega, by rw [Int.toNat_natCast, List.getElem?_map, hg]; rfl⟩, ?_⟩
            (conv => whnf)
            refine ⟨true, eqCells_tok _ _ _ _, ?_⟩
            repeat' ((conv => whnf); first | refine splitB_t rfl ?_ | refine splitB_f rfl ?_ | done)
            (conv => whnf)
            rw [IntWalk.i64_in _ (by omega)]
            refine ⟨⟨rfl, rfl⟩, ?_⟩
            (conv => whnf)
            refine splitB_f rfl ?_
            (conv => whnf)
            rw [IntWalk.i64_in ((i : Int) + 1) (by omega)]
            exact ih (i + 1) hd' (by omega)
        exact key2 l 0 rfl (by omega)
      (conv => whnf)
      refine splitB_ne (fun h1 => ?_) (fun h1 => ?_)
      · have h2 : (n : Int) = stop := by omega
        (conv => whnf)
        refine splitB_f (bne_eq_false_iff_eq.2 h2) ?_
        repeat' ((conv => whnf); first | refine splitB_t rfl ?_ | refine splitB_f rfl ?_ | done)
        have q := last
        (conv at q => whnf)
        (conv => whnf)
        exact q
      · repeat' ((conv => whnf); first | refine splitB_t rfl ?_ | refine splitB_f rfl ?_ | done)
        have q := last
        (conv at q => whnf)
        (conv => whnf)
        exact q
    have key : ∀ (rest : List Tok) (i : Nat), l.drop i = rest → i ≤ l.length →
        R [(0, .p (.fn (.yield L))), (14, .p (.list 4 (l.map tkP))), (15, .p (.int .i64 (l.map tkP).length)), (16, .p (.int .i64 i))] H
          [.cells [.p (.int .i64 stop)], .cells [.p (.bool false)], .cells [.p (.list 4 (l.map tkP))], .cells [.p (.str s)], .cells [.p (.int .i64 i)], .loop L r [3, 4, 5, 8, 9] [.ref (.l 0) 0, .ref (.l 1) 0, .ref (.l 2) 0, .clos (Fn.func 23) [] [.ref (.l 3) 0], .ref (.l 4) 0] .ready] := by
      intro rest
      induction rest with
      | nil =>
        intro i hd hle
        have hi := drop_nil hd
        refine hR2 _ _ _ ?_
        (conv => whnf)
        refine splitB_f (decide_eq_false (by omega)) ?_
        (conv => whnf)
        refine ⟨⟨rfl, rfl⟩, ?_⟩
        have q := second i (.inl (by omega))
        (conv at q => whnf)
        (conv => whnf)
        exact q
      | cons x rest ih =>
        intro i hd hle
        obtain ⟨hg, hd', hil⟩ := drop_cons hd
        refine hR2 _ _ _ ?_
        (conv => whnf)
        refine splitB_t (decide_eq_true (by omega)) ?_
        (conv => whnf)
        refine ⟨rfl, tkP x, ⟨by omega, by rw [Int.toNat_natCast, List.getElem?_map, hg]; rfl⟩, ?_⟩
        (conv => whnf)
        refine hY [.int .i64 i, tkP x] _ _ _ ?_
        (conv => whnf)
        refine ⟨⟨rfl, rfl⟩, ?_⟩
        (conv => whnf)
        refine ⟨⟨rfl, rfl⟩, ?_⟩
        (conv => whnf)
        refine splitB_f (bne_eq_false_iff_eq.2 rfl) ?_
        (conv => whnf)
        refine splitB_f (decide_eq_false (by omega)) ?_
        repeat' ((conv => whnf); first | refine splitB_t rfl ?_ | refine splitB_f rfl ?_ | done)
        (conv => whnf)
        refine ⟨rfl, tkP x, ⟨by omega, by rw [Int.toNat_natCast, List.getElem?_map, hg]; rfl⟩, ?_⟩
        (conv => whnf)
        refine ⟨true, eqCells_tok _ _ _ _, ?_⟩
        repeat' ((conv => whnf); first | refine splitB_t rfl ?_ | refine splitB_f rfl ?_ | done)
        (conv => whnf)
        rw [IntWalk.i64_in _ (by omega)]
        refine splitB_eq (fun hs => ?_) (fun hs => ?_)
        · have q := secondG x (i + 1) (.inr (by omega))
          (conv at q => whnf)
          (conv => whnf)
          refine ⟨⟨rfl, rfl⟩, ?_⟩
          (conv => whnf)
          refine splitB_t rfl ?_
          (conv => whnf)
          refine ⟨⟨rfl, rfl⟩, ?_⟩
          (conv => whnf)
          exact q
        · (conv => whnf)
          refine ⟨⟨rfl, rfl⟩, ?_⟩
          (conv => whnf)
          refine splitB_f rfl ?_
          (conv => whnf)
          rw [IntWalk.i64_in ((i : Int) + 1) (by omega)]
          exact ih (i + 1) hd' (by omega)
    exact key l 0 rfl (by omega)

end Go.Proofs.Ytkjidklifmcpnaa.AD
