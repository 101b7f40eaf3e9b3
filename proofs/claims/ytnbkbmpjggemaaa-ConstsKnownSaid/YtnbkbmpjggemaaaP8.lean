/- Chapter 17: the law ConstsKnown of the code. -/
import Derived.Test.YtnbkbmpjggemaaaP7
namespace Go.Proofs.Ytnbkbmpjggemaaa.AD
open Go.Proofs
set_option linter.unusedVariables false
set_option linter.unusedSimpArgs false
set_option maxRecDepth 100000

theorem wrong_spec {s : ByteArray} {p : Nat} {e : Int} (hs : (s.size : Int) ≤ 9223372036854775807) (h : constR s = .err p e) : pureF Try.prog 11 [.p (.str s), .p (.int .i64 e), .p (.int .i64 p)] (.p (.bool true)) := by
  refine pureF_of f11_ok fun H => ?_
  have hP := Parse_spec s hs
  rw [h] at hP
  (conv => whnf)
  refine CallVC.pureF hP rfl ?_
  (conv => whnf)
  refine splitB_t rfl ?_
  (conv => whnf)
  refine splitB_t (beq_self_eq_true _) ?_
  (conv => whnf)
  exact ⟨congrArg (fun b => AV.p (PV.bool b)) (beq_self_eq_true _), rfl⟩

theorem number17_spec {i : Nat} (hi : i < 256) : pureF Try.prog 13 [.p (.int .i64 i)] (.p (.str (ofL (dg i)))) := by
  refine pureF_of f13_ok fun H => ?_
  have a := (dig_of (n := i / 100) (by omega)).2
  have b := (dig_of (n := i / 10 % 10) (by omega)).2
  have c := (dig_of (n := i % 10) (by omega)).2
  (conv => whnf)
  refine ⟨by decide, ?_⟩
  (conv => whnf)
  refine ⟨by decide, ?_⟩
  (conv => whnf)
  refine ⟨by decide, ?_⟩
  (conv => whnf)
  refine ⟨by decide, ?_⟩
  (conv => whnf)
  have q1 : ((i : Nat) : Int).tdiv 100 = ((i / 100 : Nat) : Int) := by rw [Int.tdiv_eq_ediv_of_nonneg (by omega)]; omega
  have q2 : ((i : Nat) : Int).tdiv 10 = ((i / 10 : Nat) : Int) := by rw [Int.tdiv_eq_ediv_of_nonneg (by omega)]; omega
  have q3 : ((i / 10 : Nat) : Int).tmod 10 = ((i / 10 % 10 : Nat) : Int) := by rw [Int.tmod_eq_emod_of_nonneg (by omega)]; omega
  have q4 : ((i : Nat) : Int).tmod 10 = ((i % 10 : Nat) : Int) := by rw [Int.tmod_eq_emod_of_nonneg (by omega)]; omega
  have v1 : IntKind.u8.wrap (48 + IntKind.u8.wrap (IntKind.i64.wrap (((i : Nat) : Int).tdiv 100))) = ((UInt8.ofNat (48 + i / 100)).toNat : Int) := by
    rw [a, q1, IntWalk.i64_in _ (by omega), IntWalk.u8_in ((i / 100 : Nat) : Int) (by omega), IntWalk.u8_in _ (by omega)]; omega
  have v2 : IntKind.u8.wrap (48 + IntKind.u8.wrap ((IntKind.i64.wrap (((i : Nat) : Int).tdiv 10)).tmod 10)) = ((UInt8.ofNat (48 + i / 10 % 10)).toNat : Int) := by
    rw [b, q2, IntWalk.i64_in _ (by omega), q3, IntWalk.u8_in ((i / 10 % 10 : Nat) : Int) (by omega), IntWalk.u8_in _ (by omega)]; omega
  have v3 : IntKind.u8.wrap (48 + IntKind.u8.wrap (((i : Nat) : Int).tmod 10)) = ((UInt8.ofNat (48 + i % 10)).toNat : Int) := by
    rw [c, q4, IntWalk.u8_in ((i % 10 : Nat) : Int) (by omega), IntWalk.u8_in _ (by omega)]; omega
  rw [v1, v2, v3]
  refine ⟨rfl, dg i, bsP_bytes (dg i), ?_⟩
  (conv => whnf)
  exact ⟨rfl, rfl⟩

def kL : List Cn := [⟨⟨#[97]⟩, ⟨#[120]⟩⟩, ⟨⟨#[98]⟩, ⟨#[121]⟩⟩, ⟨⟨#[97]⟩, ⟨#[122]⟩⟩]
theorem one_at (s : ByteArray) (hs : (s.size : Int) ≤ 9223372036854775807) (x : ByteArray × Nat × Int) (h : oneR s kL = x) : pureF Try.prog 12 [.p (.str s), .p (.list 2 (kL.map cnP))] (.p (resO x)) := by
  rw [← h]; exact One_spec s hs kL (by decide)

theorem ConstsKnown_spec : pureF Try.prog 4 [] (.p (.bool true)) := by
  refine pureF_of f4_ok fun H => ?_
  have hw := worksC_spec
  (conv => whnf)
  refine CallVC.pureF (wrong_spec (s := ⟨#[97, 32, 61, 32, 34, 120, 34, 44, 32, 98, 32, 61, 32, 34, 121, 34]⟩) (p := 7) (e := 150) (by decide) (by kernel_rfl)) rfl ?_
  (conv => whnf)
  refine splitB_t rfl ?_
  (conv => whnf)
  refine CallVC.pureF (wrong_spec (s := ⟨#[97, 32, 61, 32, 98]⟩) (p := 4) (e := 150) (by decide) (by kernel_rfl)) rfl ?_
  (conv => whnf)
  refine splitB_t rfl ?_
  (conv => whnf)
  refine CallVC.pureF (wrong_spec (s := ⟨#[97]⟩) (p := 1) (e := 150) (by decide) (by kernel_rfl)) rfl ?_
  (conv => whnf)
  refine splitB_t rfl ?_
  (conv => whnf)
  refine CallVC.pureF (wrong_spec (s := ⟨#[97, 32, 61]⟩) (p := 3) (e := 150) (by decide) (by kernel_rfl)) rfl ?_
  (conv => whnf)
  refine splitB_t rfl ?_
  (conv => whnf)
  refine CallVC.pureF (wrong_spec (s := ⟨#[97, 32, 34, 120, 34]⟩) (p := 2) (e := 150) (by decide) (by kernel_rfl)) rfl ?_
  (conv => whnf)
  refine splitB_t rfl ?_
  (conv => whnf)
  refine CallVC.pureF (wrong_spec (s := ⟨#[34, 97, 34]⟩) (p := 0) (e := 150) (by decide) (by kernel_rfl)) rfl ?_
  (conv => whnf)
  refine CallVC.pureF (wrong_spec (s := ⟨#[95, 97, 32, 61, 32, 34, 120, 34]⟩) (p := 0) (e := 171) (by decide) (by kernel_rfl)) rfl ?_
  (conv => whnf)
  refine splitB_t rfl ?_
  (conv => whnf)
  refine CallVC.pureF (wrong_spec (s := ⟨#[97, 32, 61, 32, 34, 120, 34, 32, 97, 32, 61, 32, 34, 121, 34]⟩) (p := 8) (e := 170) (by decide) (by kernel_rfl)) rfl ?_
  (conv => whnf)
  refine splitB_t rfl ?_
  (conv => whnf)
  refine CallVC.pureF (wrong_spec (s := ⟨#[116, 114, 117, 101, 32, 61, 32, 34, 120, 34]⟩) (p := 0) (e := 150) (by decide) (by kernel_rfl)) rfl ?_
  (conv => whnf)
  refine splitB_t rfl ?_
  (conv => whnf)
  refine CallVC.pureF (wrong_spec (s := ⟨#[97, 32, 61, 32, 34, 120]⟩) (p := 4) (e := 141) (by decide) (by kernel_rfl)) rfl ?_
  (conv => whnf)
  refine splitB_t rfl ?_
  (conv => whnf)
  refine CallVC.pureF (wrong_spec (s := ⟨#[95]⟩) (p := 0) (e := 171) (by decide) (by kernel_rfl)) rfl ?_
  (conv => whnf)
  refine splitB_t rfl ?_
  (conv => whnf)
  refine CallVC.pureF (wrong_spec (s := ⟨#[97, 61, 34, 34, 32, 97]⟩) (p := 5) (e := 170) (by decide) (by kernel_rfl)) rfl ?_
  (conv => whnf)
  refine CallVC.pureF (one_at ⟨#[34, 107, 34]⟩ (by decide) (⟨#[107]⟩, 0, 0) (by kernel_rfl)) rfl ?_
  (conv => whnf)
  refine CallVC.pureF (one_at ⟨#[97]⟩ (by decide) (⟨#[120]⟩, 0, 0) (by kernel_rfl)) rfl ?_
  (conv => whnf)
  refine CallVC.pureF (one_at ⟨#[99]⟩ (by decide) (⟨#[]⟩, 0, 150) (by kernel_rfl)) rfl ?_
  (conv => whnf)
  refine CallVC.pureF (one_at ⟨#[32]⟩ (by decide) (⟨#[]⟩, 1, 150) (by kernel_rfl)) rfl ?_
  (conv => whnf)
  refine CallVC.pureF (one_at ⟨#[34, 107, 34, 32, 34, 108, 34]⟩ (by decide) (⟨#[]⟩, 4, 150) (by kernel_rfl)) rfl ?_
  (conv => whnf)
  repeat' ((conv => whnf); first | refine splitB_t (toList_beq.2 rfl) ?_ | refine splitB_t rfl ?_ | done)
  (conv => whnf)
  intro R hR
  have key : ∀ (n i : Nat) (acc : ByteArray), i + n = 256 → acc.data.toList = piecesL 0 i → R [(1, .p (.bool true)), (2, .p (.bool true)), (18, .p (.bool true)), (19, .p (.str acc)), (20, .p (.int .i64 i))] H [] := by
    intro n
    induction n with
    | zero =>
      intro i acc hi ha
      have hi : i = 256 := hi
      subst hi
      have hl := ba_size acc
      rw [ha, piecesL_len] at hl
      have h1 := Parse_spec acc (by omega)
      rw [many_ok acc ha] at h1
      have hx : (⟨#[120]⟩ : ByteArray).size = 1 := rfl
      have hk : (⟨#[107, 48, 48, 48]⟩ : ByteArray).size = 4 := rfl
      have h2 := wrong_spec (by rw [ByteArray.size_append, hx]; omega) (many_x (acc ++ ⟨#[120]⟩) (by rw [ByteArray.data_append, Array.toList_append, ha]))
      have h3 := wrong_spec (by rw [ByteArray.size_append, hk]; omega) (many_k (acc ++ ⟨#[107, 48, 48, 48]⟩) (by rw [ByteArray.data_append, Array.toList_append, ha]))
      have hsz : (acc.size : Int) = ((2048 : Nat) : Int) := by omega
      have hcl : ((cnL 0 256).map cnP).length = 256 := by rw [List.length_map, cnL_len]
      refine hR _ _ _ ?_
      (conv => whnf)
      refine splitB_f rfl ?_
      (conv => whnf)
      refine CallVC.pureF h1 rfl ?_
      (conv => whnf)
      refine splitB_t rfl ?_
      (conv => whnf)
      refine splitB_t (by rw [hcl]; rfl) ?_
      (conv => whnf)
      refine ⟨by rw [hx]; omega, ?_⟩
      (conv => whnf)
      rw [hsz]
      refine CallVC.pureF h2 rfl ?_
      (conv => whnf)
      refine splitB_t rfl ?_
      (conv => whnf)
      refine ⟨by rw [hk]; omega, ?_⟩
      (conv => whnf)
      rw [hsz]
      refine CallVC.pureF h3 rfl ?_
      repeat' ((conv => whnf); first | refine splitB_t rfl ?_ | done)
      (conv => whnf)
      refine CallVC.pureF hw rfl ?_
      (conv => whnf)
      exact ⟨rfl, rfl⟩
    | succ n ih =>
      intro i acc hi ha
      have hl := ba_size acc
      rw [ha, piecesL_len] at hl
      have hk : (⟨#[107]⟩ : ByteArray).size = 1 := rfl
      have he : (⟨#[61, 34, 34, 32]⟩ : ByteArray).size = 4 := rfl
      have hd : (ofL (dg i)).size = 3 := by rw [ba_size, ofL_data]; rfl
      refine hR _ _ _ ?_
      (conv => whnf)
      refine splitB_t (decide_eq_true (by omega)) ?_
      (conv => whnf)
      refine ⟨by rw [hk]; omega, ?_⟩
      (conv => whnf)
      refine CallVC.pureF (number17_spec (i := i) (by omega)) rfl ?_
      (conv => whnf)
      refine ⟨by rw [ByteArray.size_append, hk, hd]; omega, ?_⟩
      (conv => whnf)
      refine ⟨by rw [ByteArray.size_append, ByteArray.size_append, hk, hd, he]; omega, ?_⟩
      (conv => whnf)
      rw [IntWalk.i64_in _ (by omega)]
      refine ih (i + 1) (acc ++ ⟨#[107]⟩ ++ ofL (dg i) ++ ⟨#[61, 34, 34, 32]⟩) (by omega) ?_
      rw [piecesL_snoc, ← ha]
      simp [ByteArray.data_append, ofL, pieceL]
  exact key 256 0 ⟨#[]⟩ rfl rfl

end Go.Proofs.Ytnbkbmpjggemaaa.AD
