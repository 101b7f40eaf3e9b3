/- Chapter 14: the law TokensBlank of the code. -/
import Derived.Test.YtkjidklifmcpnaaK14
namespace Go.Proofs.Ytkjidklifmcpnaa.AD
open Go.Proofs
set_option linter.unusedVariables false
set_option linter.unusedSimpArgs false
set_option maxRecDepth 100000

theorem spread_spec (s : ByteArray) (l : List Tok) (more : ByteArray) (hA : ∀ x, x ∈ l → Alone s.data.toList x) (hs : s.size ≤ 65536) (hl : l.length ≤ 65536) (hz : (sprL s.data.toList more.data.toList l).length ≤ 65536) :
    pureF Try.prog 12 [.p (.str s), .p (.list 4 (l.map tkP)), .p (.str more)] (.p (.str (ofL (sprL s.data.toList more.data.toList l)))) := by
  refine pureF_of f12_ok fun H => ?_
  have hm : (l.map tkP).length = l.length := by simp
  have hls := ba_size s
  have hlm := ba_size more
  (conv => whnf)
  intro R hR
  have key : ∀ (rest : List Tok) (i : Nat) (acc : ByteArray), l.drop i = rest → acc.data.toList ++ sprL s.data.toList more.data.toList rest = sprL s.data.toList more.data.toList l →
      R [(0, .p (.str s)), (1, .p (.list 4 (l.map tkP))), (2, .p (.str more)), (7, .p (.str acc)), (8, .p (.int .i64 i))] H [] := by
    intro rest
    induction rest with
    | nil =>
      intro i acc hd hq
      have hi := drop_nil hd
      have hq2 := congrArg List.length hq
      rw [List.length_append, ← ba_size] at hq2
      simp only [sprL] at hq hq2
      rw [← hlm] at hq2
      refine hR _ _ _ ?_
      (conv => whnf)
      refine splitB_f (decide_eq_false (by omega)) ?_
      (conv => whnf)
      refine ⟨by omega, ?_⟩
      (conv => whnf)
      exact ⟨congrArg (fun b => AV.p (PV.str b)) (ba_eq (by rw [ofL_data, ← hq]; simp [ByteArray.data_append])), rfl⟩
    | cons x r ih =>
      intro i acc hd hq
      obtain ⟨hg, hd', hil⟩ := drop_cons hd
      have hq2 := congrArg List.length hq
      rw [List.length_append, ← ba_size] at hq2
      simp only [sprL, List.length_append] at hq hq2
      rw [← hlm] at hq2
      obtain ⟨c, w, h1, h2, h3, h4⟩ := hA x (List.mem_of_getElem? hg)
      have hb : (bodyOf s.data.toList x).length = x.e - x.a := by rw [bodyOf, h1]; omega
      refine hR _ _ _ ?_
      (conv => whnf)
      refine splitB_t (decide_eq_true (by omega)) ?_
      (conv => whnf)
      refine ⟨by omega, ?_⟩
      (conv => whnf)
      refine ⟨rfl, tkP x, ⟨by omega, by rw [Int.toNat_natCast, List.getElem?_map, hg]; rfl⟩, ?_⟩
      (conv => whnf)
      refine ⟨rfl, tkP x, ⟨by omega, by rw [Int.toNat_natCast, List.getElem?_map, hg]; rfl⟩, ?_⟩
      (conv => whnf)
      refine ⟨⟨by omega, by omega, by omega⟩, ?_⟩
      (conv => whnf)
      have hbx : s.extract (Int.toNat (x.a : Int)) (Int.toNat (x.e : Int)) = ofL (bodyOf s.data.toList x) := by rw [ext_ofL, Int.toNat_natCast, Int.toNat_natCast, bodyOf]
      have hsb : (ofL (bodyOf s.data.toList x)).size = x.e - x.a := by rw [ba_size, ofL_data, hb]
      refine ⟨by rw [hbx, ByteArray.size_append, hsb]; omega, ?_⟩
      (conv => whnf)
      rw [hbx, IntWalk.i64_in _ (by omega)]
      exact ih (i + 1) (acc ++ more ++ ofL (bodyOf s.data.toList x)) hd' (by rw [← hq]; simp [ByteArray.data_append, ofL])
  exact key l 0 ⟨#[]⟩ rfl rfl

def More (m : ByteArray) : Prop := m.data.toList.length ≤ 5 ∧ (∀ y, skipF false (m.data.toList ++ y) = m.data.toList.length + skipF false y) ∧ ∀ y, sepH (m.data.toList ++ y)
theorem more1 : More ⟨#[32]⟩ := ⟨by decide, fun y => by simp [skipF]; omega, fun y h z e => by cases e; exact .inl rfl⟩
theorem more2 : More ⟨#[9, 35, 34, 38, 10]⟩ := ⟨by decide, fun y => by simp [skipF]; omega, fun y h z e => by cases e; exact .inr (.inl rfl)⟩
theorem more3 : More ⟨#[13, 10, 10]⟩ := ⟨by decide, fun y => by simp [skipF]; omega, fun y h z e => by cases e; exact .inr (.inr (.inl rfl))⟩

theorem TokensBlank_spec (s : ByteArray) (how : Int) (hs : (s.size : Int) ≤ 9223372036854775807) (hh : -9223372036854775808 ≤ how ∧ how ≤ 9223372036854775807) : pureF Try.prog 4 [.p (.str s), .p (.int .i64 how)] (.p (.bool true)) := by
  refine pureF_of f4_ok fun H => ?_
  have hT := Tokens_spec s hs
  have hw := works_spec
  have hls := ba_size s
  cases hR : tokensR s with
  | err p e =>
    rw [hR] at hT
    obtain ⟨he, hp⟩ := tokensR_err hR
    (conv => whnf)
    refine CallVC.pureF hT rfl ?_
    (conv => whnf)
    refine splitB_t (by rcases he with rfl | rfl | rfl | rfl <;> rfl) ?_
    repeat' ((conv => whnf); first | refine splitB_t rfl ?_ | refine splitB_f rfl ?_ | done)
    (conv => whnf)
    refine CallVC.pureF hw rfl ?_
    (conv => whnf)
    exact ⟨rfl, rfl⟩
  | ok l =>
    rw [hR] at hT
    have hll := tokensR_len hR
    have hml : (l.map tkP).length = l.length := by simp
    have hss := (tokensR_tile hR).1
    (conv => whnf)
    refine CallVC.pureF hT rfl ?_
    (conv => whnf)
    refine splitB_f rfl ?_
    (conv => whnf)
    refine splitB_dec (fun h1 => ?_) (fun h1 => ?_)
    · repeat' ((conv => whnf); first | refine splitB_t rfl ?_ | refine splitB_f rfl ?_ | done)
      (conv => whnf)
      refine CallVC.pureF hw rfl ?_
      (conv => whnf)
      exact ⟨rfl, rfl⟩
    (conv => whnf)
    refine splitB_dec (fun h2 => ?_) (fun h2 => ?_)
    · repeat' ((conv => whnf); first | refine splitB_t rfl ?_ | refine splitB_f rfl ?_ | done)
      (conv => whnf)
      refine CallVC.pureF hw rfl ?_
      (conv => whnf)
      exact ⟨rfl, rfl⟩
    have last : ∀ m : ByteArray, More m → W Try.prog f4.c37 [(0, .p (.str s)), (5, .p (.list 4 (l.map tkP))), (8, .p (.str m))] H [] (endQ f4 fun r' H' => r' = .p (.bool true) ∧ H' = H) := by
      intro m hM
      obtain ⟨m1, m2, m3⟩ := hM
      have hmm := ba_size m
      have hA : ∀ x, x ∈ l → Alone s.data.toList x := fun x hx => (toks_alone _ _ _ _ (tokS_of hR) (by rw [Nat.zero_add]) x hx).1
      have hz := tokens_spread hR (by omega) (by omega) m.data.toList m1 m2 m3 (ofL (sprL s.data.toList m.data.toList l)) (ofL_data _)
      have hzs := (tokensR_tile hz).1
      have hzs2 := ba_size (ofL (sprL s.data.toList m.data.toList l))
      rw [ofL_data] at hzs2
      have hZ := Tokens_spec (ofL (sprL s.data.toList m.data.toList l)) (by omega)
      rw [hz] at hZ
      have hrl := reT_len m.data.toList.length l 0
      have hrm : ((reT m.data.toList.length 0 l).map tkP).length = l.length := by rw [List.length_map, hrl]
      (conv => whnf)
      refine CallVC.pureF (spread_spec s l m hA (by omega) (by omega) (by omega)) rfl ?_
      (conv => whnf)
      refine CallVC.pureF hZ rfl ?_
      (conv => whnf)
      refine splitB_f rfl ?_
      (conv => whnf)
      refine splitB_f (bne_eq_false_iff_eq.2 (by omega)) ?_
      (conv => whnf)
      intro R hR2
      have key : ∀ (rest : List Tok) (i p : Nat), l.drop i = rest → (reT m.data.toList.length 0 l).drop i = reT m.data.toList.length p rest → p ≤ 65536 →
          R [(5, .p (.list 4 (l.map tkP))), (8, .p (.str m)), (9, .p (.list 4 ((reT m.data.toList.length 0 l).map tkP))), (12, .p (.int .i64 p)), (13, .p (.int .i64 i))] H [] := by
        intro rest
        induction rest with
        | nil =>
          intro i p hd hq hp
          have hi := drop_nil hd
          refine hR2 _ _ _ ?_
          (conv => whnf)
          refine splitB_f (decide_eq_false (by omega)) ?_
          (conv => whnf)
          refine CallVC.pureF hw rfl ?_
          (conv => whnf)
          exact ⟨rfl, rfl⟩
        | cons x r ih =>
          intro i p hd hq hp
          obtain ⟨hg, hd', hil⟩ := drop_cons hd
          simp only [reT] at hq
          obtain ⟨hg2, hd2, hil2⟩ := drop_cons hq
          obtain ⟨c, w, h1', h2', h3, h4⟩ := hA x (List.mem_of_getElem? hg)
          have hin := (toks_alone _ _ _ _ (tokS_of hz) (by rw [Nat.zero_add]) _ (List.mem_of_getElem? hg2)).1
          obtain ⟨_, _, _, _, _, h5⟩ := hin
          simp only at h5
          rw [ofL_data] at h5
          refine hR2 _ _ _ ?_
          (conv => whnf)
          refine splitB_t (decide_eq_true (by omega)) ?_
          (conv => whnf)
          refine ⟨rfl, tkP _, ⟨by omega, by rw [Int.toNat_natCast, List.getElem?_map, hg2]; rfl⟩, ?_⟩
          (conv => whnf)
          refine ⟨rfl, tkP x, ⟨by omega, by rw [Int.toNat_natCast, List.getElem?_map, hg]; rfl⟩, ?_⟩
          (conv => whnf)
          refine ⟨rfl, tkP x, ⟨by omega, by rw [Int.toNat_natCast, List.getElem?_map, hg]; rfl⟩, ?_⟩
          (conv => whnf)
          refine ⟨rfl, tkP x, ⟨by omega, by rw [Int.toNat_natCast, List.getElem?_map, hg]; rfl⟩, ?_⟩
          (conv => whnf)
          refine ⟨rfl, tkP x, ⟨by omega, by rw [Int.toNat_natCast, List.getElem?_map, hg]; rfl⟩, ?_⟩
          (conv => whnf)
          refine ⟨true, ?_, ?_⟩
          · have w1 : IntKind.i64.wrap ((p : Int) + (m.size : Int)) = ((p + m.data.toList.length : Nat) : Int) := by
              rw [IntWalk.i64_in _ (by omega)]; omega
            rw [w1]
            have w2 : IntKind.i64.wrap (IntKind.i64.wrap (((p + m.data.toList.length : Nat) : Int) + (x.e : Int)) - (x.a : Int)) = ((p + m.data.toList.length + (x.e - x.a) : Nat) : Int) := by
              rw [IntWalk.i64_in (((p + m.data.toList.length : Nat) : Int) + (x.e : Int)) (by omega), IntWalk.i64_in _ (by omega)]; omega
            rw [w2]
            exact eqCells_tok _ _ _ _
          (conv => whnf)
          refine splitB_f rfl ?_
          (conv => whnf)
          refine ⟨rfl, tkP _, ⟨by omega, by rw [Int.toNat_natCast, List.getElem?_map, hg2]; rfl⟩, ?_⟩
          (conv => whnf)
          rw [IntWalk.i64_in ((i : Int) + 1) (by omega)]
          exact ih (i + 1) (p + m.data.toList.length + (x.e - x.a)) hd' hd2 (by rw [hzs2] at hzs; exact Nat.le_trans h5 hzs)
      exact key l 0 0 rfl rfl (by omega)
    (conv => whnf)
    refine ⟨by decide, ?_⟩
    (conv => whnf)
    refine splitB_eq (fun h3 => ?_) (fun h3 => ?_)
    · (conv => whnf)
      refine ⟨by decide, ?_⟩
      (conv => whnf)
      refine splitB_eq (fun h4 => ?_) (fun h4 => ?_)
      · have q := last _ more3
        (conv at q => whnf)
        (conv => whnf)
        exact q
      · have q := last _ more2
        (conv at q => whnf)
        (conv => whnf)
        exact q
    · (conv => whnf)
      refine ⟨by decide, ?_⟩
      (conv => whnf)
      refine splitB_eq (fun h4 => ?_) (fun h4 => ?_)
      · have q := last _ more3
        (conv at q => whnf)
        (conv => whnf)
        exact q
      · have q := last _ more1
        (conv at q => whnf)
        (conv => whnf)
        exact q

end Go.Proofs.Ytkjidklifmcpnaa.AD
