/- Chapter 14: the document's Quote; the law TokensTexts of the code. -/
import Derived.Test.YtkjidklifmcpnaaK13
import Derived.Test.YtkjidklifmcpnaaQ2
namespace Go.Proofs.Ytkjidklifmcpnaa.AD
open Go.Proofs
set_option linter.unusedVariables false
set_option linter.unusedSimpArgs false
set_option maxRecDepth 100000

theorem octR_fin : ∀ n : Fin 256, (IntKind.u8.wrap (48 + IntKind.u8.wrap (Int.tdiv ((UInt8.ofNat n.1).toNat : Int) 64)) = (((48 : UInt8) + (UInt8.ofNat n.1 >>> (6 : UInt8))).toNat : Int)) ∧
    (IntKind.u8.wrap (48 + Int.tmod (IntKind.u8.wrap (Int.tdiv ((UInt8.ofNat n.1).toNat : Int) 8)) 8) = (((48 : UInt8) + ((UInt8.ofNat n.1 >>> (3 : UInt8)) &&& 7)).toNat : Int)) ∧
    (IntKind.u8.wrap (48 + Int.tmod ((UInt8.ofNat n.1).toNat : Int) 8) = (((48 : UInt8) + (UInt8.ofNat n.1 &&& 7)).toNat : Int)) := by decide +kernel
theorem octR (c : UInt8) : (IntKind.u8.wrap (48 + IntKind.u8.wrap (Int.tdiv (c.toNat : Int) 64)) = (((48 : UInt8) + (c >>> (6 : UInt8))).toNat : Int)) ∧
    (IntKind.u8.wrap (48 + Int.tmod (IntKind.u8.wrap (Int.tdiv (c.toNat : Int) 8)) 8) = (((48 : UInt8) + ((c >>> (3 : UInt8)) &&& 7)).toNat : Int)) ∧
    (IntKind.u8.wrap (48 + Int.tmod (c.toNat : Int) 8) = (((48 : UInt8) + (c &&& 7)).toNat : Int)) := by
  have h := octR_fin ⟨c.toNat, c.toNat_lt⟩
  simpa only [UInt8.ofNat_toNat] using h
theorem bsP_app (a b : List UInt8) : bsP (a ++ b) = bsP a ++ bsP b := List.map_append
theorem bsP_len (a : List UInt8) : (bsP a).length = a.length := List.length_map _

theorem refQuote_spec (s : ByteArray) (hs : s.size ≤ 1073741824) : pureF Try.prog 17 [.p (.str s)] (.p (.str ⟨(quoteL s.data.toList).toArray⟩)) := by
  refine pureF_of f17_ok fun H => ?_
  (conv => whnf)
  intro R hR
  have key : ∀ (rest : List UInt8) (i g : Nat) (acc : List UInt8), s.data.toList.drop i = rest → acc ++ rest.flatMap quoteB ++ [34] = quoteL s.data.toList → acc.length ≤ 4 * i + 1 → i ≤ s.size → R [(0, .p (.str s)), (3, .view (.l 0) g 1 acc.length), (4, .p (.int .i64 i))] H [.buf g 1 (bsP acc)] := by
    intro rest
    induction rest with
    | nil =>
      intro i g acc hd hq hl hle
      have hi := sz_le hd
      refine hR _ _ _ ?_
      (conv => whnf)
      refine splitB_f (decide_eq_false (by omega)) ?_
      have hal := bsP_len acc
      have hq2 : acc ++ [34] = quoteL s.data.toList := by rw [← hq]; simp
      (conv => whnf)
      refine ⟨rfl, ?_⟩
      (conv => whnf)
      refine ⟨⟨rfl, rfl, rfl, by omega⟩, by simp [room]; omega, bsP acc ++ bsP [34], by rw [List.take_of_length_le (by omega)]; rfl, ?_⟩
      (conv => whnf)
      refine ⟨⟨rfl, rfl, rfl, by rw [← bsP_app, bsP_len, List.length_append]; exact Nat.le_refl _⟩, bsP (acc ++ [34]), by rw [← bsP_app, List.take_of_length_le (by rw [bsP_len, List.length_append]; exact Nat.le_refl _)], acc ++ [34], bsP_bytes _, ?_⟩
      (conv => whnf)
      rw [hq2]
      exact ⟨rfl, rfl⟩
    | cons c r ih =>
      intro i g acc hd hq hl hle
      obtain ⟨hg, hd', _⟩ := drop_cons hd
      have hi := sz_lt hd
      have hal := bsP_len acc
      refine hR _ _ _ ?_
      (conv => whnf)
      refine splitB_t (decide_eq_true (by omega)) ?_
      (conv => whnf)
      refine ⟨c, ⟨by omega, by rw [Int.toNat_natCast]; exact hg⟩, ?_⟩
      rw [List.flatMap_cons, ← List.append_assoc] at hq
      have goon : ∀ bs : List UInt8, quoteB c = bs → R [(0, .p (.str s)), (3, .view (.l 0) (g + 1) 1 (acc.length + bs.length)), (4, .p (.int .i64 ((i : Int) + 1)))] H [.buf (g + 1) 1 (bsP acc ++ bsP bs)] := by
        intro bs hb
        have h4 := quoteB_len c
        rw [hb] at hq h4
        have := ih (i + 1) (g + 1) (acc ++ bs) hd' hq (by rw [List.length_append]; omega) (by omega)
        rw [List.length_append, bsP_app] at this
        exact this
      have rm : ∀ n, n ≤ 8 → room (acc.length + n) 1 := fun n hn => by simp [room]; omega
      (conv => whnf)
      refine splitB_eq (fun h34 => ?_) (fun h34 => ?_)
      · repeat' ((conv => whnf); first | refine splitB_t rfl ?_ | refine splitB_f rfl ?_ | done)
        (conv => whnf)
        refine ⟨rfl, ?_⟩
        (conv => whnf)
        refine ⟨⟨rfl, rfl, rfl, by omega⟩, rm _ (by simp), bsP acc ++ bsP [92, c], by rw [List.take_of_length_le (by omega)]; rfl, ?_⟩
        (conv => whnf)
        rw [IntWalk.i64_in _ (by omega)]
        exact goon [92, c] (by unfold quoteB; rw [if_pos (.inl (u8_of 34 h34 rfl))])
      have c34 : c ≠ 34 := u8_ne 34 h34 rfl
      (conv => whnf)
      refine splitB_eq (fun h92 => ?_) (fun h92 => ?_)
      · repeat' ((conv => whnf); first | refine splitB_t rfl ?_ | refine splitB_f rfl ?_ | done)
        (conv => whnf)
        refine ⟨rfl, ?_⟩
        (conv => whnf)
        refine ⟨⟨rfl, rfl, rfl, by omega⟩, rm _ (by simp), bsP acc ++ bsP [92, c], by rw [List.take_of_length_le (by omega)]; rfl, ?_⟩
        (conv => whnf)
        rw [IntWalk.i64_in _ (by omega)]
        exact goon [92, c] (by unfold quoteB; rw [if_pos (.inr (u8_of 92 h92 rfl))])
      have c92 : c ≠ 92 := u8_ne 92 h92 rfl
      have n1 : ¬ (c = 34 ∨ c = 92) := fun h => h.elim c34 c92
      (conv => whnf)
      refine splitB_eq (fun h10 => ?_) (fun h10 => ?_)
      · repeat' ((conv => whnf); first | refine splitB_t rfl ?_ | refine splitB_f rfl ?_ | done)
        (conv => whnf)
        refine ⟨rfl, ?_⟩
        (conv => whnf)
        refine ⟨⟨rfl, rfl, rfl, by omega⟩, rm _ (by simp), bsP acc ++ bsP [92, 110], by rw [List.take_of_length_le (by omega)]; rfl, ?_⟩
        (conv => whnf)
        rw [IntWalk.i64_in _ (by omega)]
        exact goon [92, 110] (by unfold quoteB; rw [if_neg n1, if_pos (u8_of 10 h10 rfl)])
      have n2 : c ≠ 10 := u8_ne 10 h10 rfl
      (conv => whnf)
      refine splitB_eq (fun h9 => ?_) (fun h9 => ?_)
      · repeat' ((conv => whnf); first | refine splitB_t rfl ?_ | refine splitB_f rfl ?_ | done)
        (conv => whnf)
        refine ⟨rfl, ?_⟩
        (conv => whnf)
        refine ⟨⟨rfl, rfl, rfl, by omega⟩, rm _ (by simp), bsP acc ++ bsP [92, 116], by rw [List.take_of_length_le (by omega)]; rfl, ?_⟩
        (conv => whnf)
        rw [IntWalk.i64_in _ (by omega)]
        exact goon [92, 116] (by unfold quoteB; rw [if_neg n1, if_neg n2, if_pos (u8_of 9 h9 rfl)])
      have n3 : c ≠ 9 := u8_ne 9 h9 rfl
      (conv => whnf)
      refine splitB_eq (fun h13 => ?_) (fun h13 => ?_)
      · repeat' ((conv => whnf); first | refine splitB_t rfl ?_ | refine splitB_f rfl ?_ | done)
        (conv => whnf)
        refine ⟨rfl, ?_⟩
        (conv => whnf)
        refine ⟨⟨rfl, rfl, rfl, by omega⟩, rm _ (by simp), bsP acc ++ bsP [92, 114], by rw [List.take_of_length_le (by omega)]; rfl, ?_⟩
        (conv => whnf)
        rw [IntWalk.i64_in _ (by omega)]
        exact goon [92, 114] (by unfold quoteB; rw [if_neg n1, if_neg n2, if_neg n3, if_pos (u8_of 13 h13 rfl)])
      have n4 : c ≠ 13 := u8_ne 13 h13 rfl
      (conv => whnf)
      obtain ⟨o1, o2, o3⟩ := octR c
      refine splitB_dec (fun hlo => ?_) (fun hlo => ?_)
      · (conv => whnf)
        refine splitB_dec (fun hhi => ?_) (fun hhi => ?_)
        · repeat' ((conv => whnf); first | refine splitB_t rfl ?_ | refine splitB_f rfl ?_ | done)
          (conv => whnf)
          refine ⟨rfl, ?_⟩
          (conv => whnf)
          refine ⟨⟨rfl, rfl, rfl, by omega⟩, rm _ (by simp), bsP acc ++ bsP [c], by rw [List.take_of_length_le (by omega)]; rfl, ?_⟩
          (conv => whnf)
          rw [IntWalk.i64_in _ (by omega)]
          exact goon [c] (by unfold quoteB; rw [if_neg n1, if_neg n2, if_neg n3, if_neg n4, if_neg (by rw [UInt8.lt_iff_toNat_lt, UInt8.lt_iff_toNat_lt]; simp only [UInt8.reduceToNat]; omega)])
        · repeat' ((conv => whnf); first | refine splitB_t rfl ?_ | refine splitB_f rfl ?_ | done)
          (conv => whnf)
          refine ⟨by decide, ?_⟩
          (conv => whnf)
          refine ⟨by decide, ?_⟩
          (conv => whnf)
          refine ⟨by decide, ?_⟩
          (conv => whnf)
          refine ⟨by decide, ?_⟩
          (conv => whnf)
          rw [o1, o2, o3]
          refine ⟨rfl, ?_⟩
          (conv => whnf)
          refine ⟨⟨rfl, rfl, rfl, by omega⟩, rm _ (by simp), bsP acc ++ bsP [92, (48 : UInt8) + (c >>> (6 : UInt8)), (48 : UInt8) + ((c >>> (3 : UInt8)) &&& 7), (48 : UInt8) + (c &&& 7)], by rw [List.take_of_length_le (by omega)]; rfl, ?_⟩
          (conv => whnf)
          rw [IntWalk.i64_in _ (by omega)]
          exact goon [92, (48 : UInt8) + (c >>> (6 : UInt8)), (48 : UInt8) + ((c >>> (3 : UInt8)) &&& 7), (48 : UInt8) + (c &&& 7)] (by unfold quoteB; rw [if_neg n1, if_neg n2, if_neg n3, if_neg n4, if_pos (by rw [UInt8.lt_iff_toNat_lt, UInt8.lt_iff_toNat_lt]; simp only [UInt8.reduceToNat]; omega)])
      · repeat' ((conv => whnf); first | refine splitB_t rfl ?_ | refine splitB_f rfl ?_ | done)
        (conv => whnf)
        refine ⟨by decide, ?_⟩
        (conv => whnf)
        refine ⟨by decide, ?_⟩
        (conv => whnf)
        refine ⟨by decide, ?_⟩
        (conv => whnf)
        refine ⟨by decide, ?_⟩
        (conv => whnf)
        rw [o1, o2, o3]
        refine ⟨rfl, ?_⟩
        (conv => whnf)
        refine ⟨⟨rfl, rfl, rfl, by omega⟩, rm _ (by simp), bsP acc ++ bsP [92, (48 : UInt8) + (c >>> (6 : UInt8)), (48 : UInt8) + ((c >>> (3 : UInt8)) &&& 7), (48 : UInt8) + (c &&& 7)], by rw [List.take_of_length_le (by omega)]; rfl, ?_⟩
        (conv => whnf)
        rw [IntWalk.i64_in _ (by omega)]
        exact goon [92, (48 : UInt8) + (c >>> (6 : UInt8)), (48 : UInt8) + ((c >>> (3 : UInt8)) &&& 7), (48 : UInt8) + (c &&& 7)] (by unfold quoteB; rw [if_neg n1, if_neg n2, if_neg n3, if_neg n4, if_pos (by rw [UInt8.lt_iff_toNat_lt, UInt8.lt_iff_toNat_lt]; simp only [UInt8.reduceToNat]; omega)])
  exact key _ 0 0 [34] rfl rfl (by simp) (Nat.zero_le _)

end Go.Proofs.Ytkjidklifmcpnaa.AD
