/- Chapter 14: the document's reader: strings, tokens. -/
import Derived.Test.YtkjidklifmcpnaaK21
namespace Go.Proofs.Ytkjidklifmcpnaa.AD
open Go.Proofs
set_option linter.unusedVariables false
set_option linter.unusedSimpArgs false
set_option maxRecDepth 100000

theorem bsPa (a b : List UInt8) : bsP (a ++ b) = bsP a ++ bsP b := List.map_append
theorem bsPl (a : List UInt8) : (bsP a).length = a.length := List.length_map _
theorem digF_one : ∀ (m v : Nat) (l : List UInt8) (bs : List UInt8) (n : Nat), digF m v l = .ok bs n → bs.length ≤ 1
  | 0, v, l, bs, n, h => by
    simp only [digF] at h
    split at h
    · cases h
    · cases h; simp
  | m + 1, v, [], bs, n, h => by cases h
  | m + 1, v, c :: r, bs, n, h => by
    simp only [digF] at h
    split at h
    · cases h
    · exact digF_one m _ r bs n h
theorem pieceP_one {l bs : List UInt8} {n : Nat} (h : pieceP l = .ok bs n) : bs.length ≤ 1 := by
  cases l with
  | nil => cases h
  | cons c r =>
    simp only [pieceP] at h
    split at h
    · cases h; simp
    split at h
    · cases h; simp
    split at h
    · cases h; simp
    split at h
    · cases h; simp
    split at h
    · cases h; simp
    · exact digF_one 3 0 _ bs n h

theorem rQuoted_spec (s : ByteArray) (hs : s.size ≤ 65536) (p : Nat) (r : List UInt8) (hd : s.data.toList.drop p = 34 :: r) : pureF Try.prog 37 [.p (.str s), .p (.int .i64 p)] (.p (resN p (strP (r.length + 1) r 1 []))) := by
  refine pureF_of f37_ok fun H => ?_
  have hps := sz_lt hd
  have hd1 := (drop_cons hd).2.1
  generalize hT : strP (r.length + 1) r 1 [] = T
  (conv => whnf)
  rw [IntWalk.i64_in _ (by omega)]
  intro R hR
  have key : ∀ (f : Nat) (rest b : List UInt8) (i g : Nat), s.data.toList.drop (p + i) = rest → rest.length < f → b.length ≤ i → strP f rest i b = T →
      R [(0, .p (.str s)), (1, .p (.int .i64 p)), (4, .ref (.l 0) 0), (7, .view (.l 1) g 1 b.length), (8, .p (.int .i64 (p + i : Nat)))] H [.cells [.p (.int .u8 0), .p (.str ⟨#[]⟩), .p (.int .i64 0), .p (.int .i64 0)], .buf g 1 (bsP b)] := by
    intro f
    induction f with
    | zero => intro rest b i g h1 h2; omega
    | succ f ih =>
      intro rest b i g h1 h2 hbl h3
      refine hR _ _ _ ?_
      cases rest with
      | nil =>
        have hl := sz_le h1
        simp only [strP] at h3
        rw [← h3]
        (conv => whnf)
        refine splitB_f (decide_eq_false (by omega)) ?_
        repeat' ((conv => whnf); first | refine splitB_t rfl ?_ | refine splitB_f rfl ?_ | done)
        (conv => whnf)
        exact ⟨rfl, rfl⟩
      | cons c rest =>
        obtain ⟨hg, h1', _⟩ := drop_cons h1
        have hl := sz_lt h1
        have hal := bsPl b
        have rm : ∀ n, n ≤ 8 → room (b.length + n) 1 := fun n hn => by simp [room]; omega
        simp only [List.length_cons] at h2
        simp only [strP] at h3
        have at_c : 0 ≤ ((p + i : Nat) : Int) ∧ s.data.toList[Int.toNat ((p + i : Nat) : Int)]? = some c := ⟨by omega, by rw [Int.toNat_natCast]; exact hg⟩
        (conv => whnf)
        refine splitB_t (decide_eq_true (by omega)) ?_
        (conv => whnf)
        refine ⟨c, at_c, ?_⟩
        (conv => whnf)
        refine splitB_ne (fun h10 => ?_) (fun h10 => ?_)
        rotate_left
        · rw [if_pos (u8_of 10 h10 rfl)] at h3
          rw [← h3]
          repeat' ((conv => whnf); first | refine splitB_t rfl ?_ | refine splitB_f rfl ?_ | done)
          (conv => whnf)
          exact ⟨rfl, rfl⟩
        rw [if_neg (u8_ne 10 h10 rfl)] at h3
        (conv => whnf)
        refine ⟨c, at_c, ?_⟩
        (conv => whnf)
        refine splitB_eq (fun h34 => ?_) (fun h34 => ?_)
        · rw [if_pos (u8_of 34 h34 rfl)] at h3
          rw [← h3]
          (conv => whnf)
          refine ⟨⟨rfl, rfl, rfl, by omega⟩, bsP b, List.take_of_length_le (by omega), b, bsP_bytes b, ?_⟩
          (conv => whnf)
          rw [IntWalk.i64_in _ (by omega)]
          exact ⟨rfl, rfl⟩
        rw [if_neg (u8_ne 34 h34 rfl)] at h3
        (conv => whnf)
        refine ⟨c, at_c, ?_⟩
        (conv => whnf)
        refine splitB_ne (fun h92 => ?_) (fun h92 => ?_)
        · rw [if_neg (u8_ne 92 h92 rfl)] at h3
          (conv => whnf)
          refine ⟨c, at_c, ?_⟩
          (conv => whnf)
          refine ⟨rfl, ?_⟩
          (conv => whnf)
          refine ⟨⟨rfl, rfl, rfl, by omega⟩, rm _ (by simp), bsP b ++ bsP [c], by rw [List.take_of_length_le (by omega)]; rfl, ?_⟩
          (conv => whnf)
          rw [IntWalk.i64_in _ (by omega)]
          have q := ih rest (b ++ [c]) (i + 1) (g + 1) h1' (by omega) (by rw [List.length_append]; simp only [List.length_cons, List.length_nil]; omega) h3
          rw [bsPa, List.length_append] at q
          exact q
        rw [if_pos (u8_of 92 h92 rfl)] at h3
        have hP := rPiece_spec s hs (p + i) rest hl h1'
        (conv => whnf)
        refine CallVC.pureF hP rfl ?_
        cases hp : pieceP rest with
        | cut =>
          rw [hp] at h3
          simp only at h3
          rw [← h3]
          (conv => whnf)
          refine splitB_t rfl ?_
          (conv => whnf)
          exact ⟨rfl, rfl⟩
        | bad =>
          rw [hp] at h3
          simp only at h3
          rw [← h3]
          (conv => whnf)
          refine splitB_f rfl ?_
          (conv => whnf)
          refine splitB_t rfl ?_
          (conv => whnf)
          exact ⟨rfl, rfl⟩
        | ok bs n =>
          rw [hp] at h3
          simp only at h3
          obtain ⟨p1, p2⟩ := pieceP_len hp
          have p3 := pieceP_one hp
          have hd2 : s.data.toList.drop (p + (i + 1 + n)) = rest.drop n := by rw [show p + (i + 1 + n) = p + i + 1 + n by omega, ← List.drop_drop, h1']
          have q := ih (rest.drop n) (b ++ bs) (i + 1 + n) (g + 1) hd2 (by rw [List.length_drop]; omega) (by rw [List.length_append]; omega) h3
          rw [bsPa, List.length_append] at q
          cases bs with
          | nil =>
            repeat' ((conv => whnf); first | refine splitB_t rfl ?_ | refine splitB_f rfl ?_ | done)
            (conv => whnf)
            refine ⟨⟨rfl, rfl, rfl, by omega⟩, by simp [room]; omega, bsP b ++ bsP [], by rw [List.take_of_length_le (by omega)]; rfl, ?_⟩
            (conv => whnf)
            rw [show p + i + 1 + n = p + (i + 1 + n) by omega]
            exact q
          | cons x bs =>
            repeat' ((conv => whnf); first | refine splitB_t rfl ?_ | refine splitB_f rfl ?_ | done)
            (conv => whnf)
            refine ⟨rfl, ?_⟩
            (conv => whnf)
            refine ⟨⟨rfl, rfl, rfl, by omega⟩, by rw [bsPl]; simp only [room]; omega, bsP b ++ bsP (x :: bs), by rw [List.take_of_length_le (by omega)], ?_⟩
            (conv => whnf)
            rw [show p + i + 1 + n = p + (i + 1 + n) by omega]
            have e2 : (bsP (x :: bs)).length = (x :: bs).length := bsPl _
            rw [e2]
            exact q
  exact key (r.length + 1) r [] 1 0 hd1 (by omega) (by simp) hT

end Go.Proofs.Ytkjidklifmcpnaa.AD
