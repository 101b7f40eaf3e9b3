/- tokens.Quote. -/
import Derived.Test.YtnbkbmpjggemaaaQ1
import Derived.Test.YtnbkbmpjggemaaaA25
import Derived.BigCall
namespace Go.Proofs.Ytnbkbmpjggemaaa.AD
open Go.Proofs Go.RowKit
set_option linter.unusedVariables false

/-- How one byte is written. -/
def quoteB (c : UInt8) : List UInt8 :=
  if c = 34 ∨ c = 92 then [92, c] else if c = 10 then [92, 110] else if c = 9 then [92, 116] else if c = 13 then [92, 114]
  else if c < 32 ∨ 126 < c then [92, (48 : UInt8) + (c >>> (6 : UInt8)), (48 : UInt8) + ((c >>> (3 : UInt8)) &&& 7), (48 : UInt8) + (c &&& 7)] else [c]
def quoteL (l : List UInt8) : List UInt8 := 34 :: (l.flatMap quoteB ++ [34])

theorem quoteB_len (c : UInt8) : (quoteB c).length ≤ 4 := by
  unfold quoteB
  repeat' split
  all_goals simp
theorem quoteBs_len : ∀ l : List UInt8, (l.flatMap quoteB).length ≤ 4 * l.length
  | [] => by simp
  | c :: r => by
    have := quoteB_len c
    have := quoteBs_len r
    simp only [List.flatMap_cons, List.length_append, List.length_cons]
    omega

def octV3 (c : UInt8) : List Value := [.int .u8 ((48 + (c.toNat : Int) / 64) % 256), .int .u8 ((48 + bits BinOp.and IntKind.u8 ((c.toNat : Int) / 8) 7) % 256), .int .u8 ((48 + bits BinOp.and IntKind.u8 (c.toNat : Int) 7) % 256)]
theorem oct_fin : ∀ n : Fin 256, ((48 + ((UInt8.ofNat n.1).toNat : Int) / 64) % 256 = (((48 : UInt8) + (UInt8.ofNat n.1 >>> (6 : UInt8))).toNat : Int)) ∧
    ((48 + bits BinOp.and IntKind.u8 (((UInt8.ofNat n.1).toNat : Int) / 8) 7) % 256 = (((48 : UInt8) + ((UInt8.ofNat n.1 >>> (3 : UInt8)) &&& 7)).toNat : Int)) ∧
    ((48 + bits BinOp.and IntKind.u8 ((UInt8.ofNat n.1).toNat : Int) 7) % 256 = (((48 : UInt8) + (UInt8.ofNat n.1 &&& 7)).toNat : Int)) := by decide +kernel
theorem oct_cells (c : UInt8) : Lib.byteCells [(48 : UInt8) + (c >>> (6 : UInt8)), (48 : UInt8) + ((c >>> (3 : UInt8)) &&& 7), (48 : UInt8) + (c &&& 7)] = octV3 c := by
  have h := oct_fin ⟨c.toNat, c.toNat_lt⟩
  simp only [UInt8.ofNat_toNat] at h
  obtain ⟨h1, h2, h3⟩ := h
  rw [octV3, h1, h2, h3]
  rfl

def octV4 (c : UInt8) : List Value := [.int .u8 (48 + (c.toNat : Int) / 64), .int .u8 (48 + (c.toNat : Int) / 8 % 8), .int .u8 (48 + (c.toNat : Int) % 8)]
theorem oct_low_fin : ∀ n : Fin 32, (48 + ((UInt8.ofNat n.1).toNat : Int) / 64 = (((48 : UInt8) + (UInt8.ofNat n.1 >>> (6 : UInt8))).toNat : Int)) ∧
    (48 + ((UInt8.ofNat n.1).toNat : Int) / 8 % 8 = (((48 : UInt8) + ((UInt8.ofNat n.1 >>> (3 : UInt8)) &&& 7)).toNat : Int)) ∧
    (48 + ((UInt8.ofNat n.1).toNat : Int) % 8 = (((48 : UInt8) + (UInt8.ofNat n.1 &&& 7)).toNat : Int)) := by decide +kernel
theorem oct_low (c : UInt8) (h : c.toNat < 32) : Lib.byteCells [(48 : UInt8) + (c >>> (6 : UInt8)), (48 : UInt8) + ((c >>> (3 : UInt8)) &&& 7), (48 : UInt8) + (c &&& 7)] = octV4 c := by
  have h := oct_low_fin ⟨c.toNat, h⟩
  simp only [UInt8.ofNat_toNat] at h
  obtain ⟨h1, h2, h3⟩ := h
  rw [octV4, h1, h2, h3]
  rfl

theorem quote_next {s : ByteArray} {k : Nat} {c : UInt8} (h : s.data.toList[k]? = some c) : (s.data.toList.take (k + 1)).flatMap quoteB = (s.data.toList.take k).flatMap quoteB ++ quoteB c := by
  rw [List.take_add_one, h]; simp

set_option maxHeartbeats 4000000 in
set_option maxRecDepth 1000000 in
theorem quote_walk (s : ByteArray) (w : World) (hs : s.size ≤ 1073741824) :
    Calls Try.prog 15 #[.string s] w fun e w' => e = .returned (.string ⟨(quoteL s.data.toList).toArray⟩) ∧ Below w.heap.size w w' := by
  go_enter Try.func15, Try.ntmps15
  go_wp2_with (go_at_call 21; refine (bld_byte w.heap.size w.heap.size [] 34 _ (Lib.fresh_isBuilder 53 5 w) (by simp) (by simp)).mono ?_)
  rintro e W1 ⟨rfl, h1, b1⟩
  go_wp2
  go_loopw [9] (fun i wr => ∃ k : Nat, k ≤ s.size ∧ i = .int .i64 k ∧ Lib.IsBuilder 53 5 w.heap.size w.heap.size (Lib.byteCells (34 :: (s.data.toList.take k).flatMap quoteB)) wr ∧ Below w.heap.size w wr) (fun i _ => s.size - (intOf i).toNat)
  case atStart =>
    refine ⟨0, Nat.zero_le _, rfl, ?_, ?_⟩
    · exact .inr h1
    · exact ((Below.refl _ w).alloc (Nat.le_refl _) _).trans b1
  case round =>
    obtain ⟨k, hk, rfl, hI, hbw⟩ := hrel
    by_cases hp : k < s.size
    · have hlen : (Lib.byteCells (34 :: (s.data.toList.take k).flatMap quoteB)).length ≤ 4 * 1073741824 + 1 := by
        rw [Lib.byteCells_length]
        have := quoteBs_len (s.data.toList.take k)
        simp only [List.length_cons, List.length_take] at this ⊢
        omega
      have hsz : w.heap.size ≤ wr.heap.size := hbw.size
      have hgk : s.data.toList[k]? = some s[k] := by
        rw [Array.getElem?_toList]; exact Array.getElem?_eq_getElem hp
      by_cases c34 : s[k].toNat = 34
      · go_wp2_with (go_at_call 21; refine (bld_byte _ _ _ _ _ hI (by omega) hsz).mono ?_)
        rintro e W2 ⟨rfl, h2, b2⟩
        have hz2 := Nat.le_trans hsz b2.size
        go_wp2_with (go_at_call 21; refine (bld_byte _ _ _ _ _ (.inr h2) (by simp only [List.length_append, List.length_cons, List.length_nil]; omega) hz2).mono ?_)
        rintro e W3 ⟨rfl, h3, b3⟩
        have hz3 := Nat.le_trans hz2 b3.size
        go_wp2
        go_roundw
        case rel =>
          refine ⟨k + 1, by omega, by simp, .inr ?_, ((hbw.trans b2).trans b3)⟩
          rw [quote_next hgk, show quoteB s[k] = [92, s[k]] from by unfold quoteB; rw [if_pos (.inl (UInt8.toNat_inj.1 c34))], ← List.cons_append, Lib.byteCells_append, show Lib.byteCells [92, s[k]] = [Value.int .u8 92, Value.int .u8 34] from by simp [Lib.byteCells, c34]]
          simpa only [List.append_assoc, List.cons_append, List.nil_append] using h3
        case measure => simp [intOf]; omega
      by_cases c92 : s[k].toNat = 92
      · go_wp2_with (go_at_call 21; refine (bld_byte _ _ _ _ _ hI (by omega) hsz).mono ?_)
        rintro e W2 ⟨rfl, h2, b2⟩
        have hz2 := Nat.le_trans hsz b2.size
        go_wp2_with (go_at_call 21; refine (bld_byte _ _ _ _ _ (.inr h2) (by simp only [List.length_append, List.length_cons, List.length_nil]; omega) hz2).mono ?_)
        rintro e W3 ⟨rfl, h3, b3⟩
        have hz3 := Nat.le_trans hz2 b3.size
        go_wp2
        go_roundw
        case rel =>
          refine ⟨k + 1, by omega, by simp, .inr ?_, ((hbw.trans b2).trans b3)⟩
          rw [quote_next hgk, show quoteB s[k] = [92, s[k]] from by unfold quoteB; rw [if_pos (.inr (UInt8.toNat_inj.1 c92))], ← List.cons_append, Lib.byteCells_append, show Lib.byteCells [92, s[k]] = [Value.int .u8 92, Value.int .u8 92] from by simp [Lib.byteCells, c92]]
          simpa only [List.append_assoc, List.cons_append, List.nil_append] using h3
        case measure => simp [intOf]; omega
      have n1 : ¬ (s[k] = 34 ∨ s[k] = 92) := by rintro (e | e) <;> (rw [e] at c34 c92; first | exact c34 rfl | exact c92 rfl)
      by_cases c10 : s[k].toNat = 10
      · go_wp2_with (go_at_call 22; refine (bld_text _ _ _ _ _ hI (by rw [show ByteArray.size ⟨#[_, _]⟩ = 2 from rfl]; omega) hsz).mono ?_)
        rintro e W2 ⟨rfl, h2, b2⟩
        go_wp2
        go_roundw
        case rel =>
          refine ⟨k + 1, by omega, by simp, .inr ?_, (hbw.trans b2)⟩
          rw [quote_next hgk, show quoteB s[k] = [92, 110] from by unfold quoteB; rw [if_neg n1, if_pos (UInt8.toNat_inj.1 c10)], ← List.cons_append, Lib.byteCells_append, show Lib.byteCells [92, 110] = Lib.strCells ⟨#[92, 110]⟩ from rfl]
          simpa only [List.append_assoc, List.cons_append, List.nil_append] using h2
        case measure => simp [intOf]; omega
      have n2 : ¬ s[k] = 10 := fun e => by rw [e] at c10; exact c10 rfl
      by_cases c9 : s[k].toNat = 9
      · go_wp2_with (go_at_call 22; refine (bld_text _ _ _ _ _ hI (by rw [show ByteArray.size ⟨#[_, _]⟩ = 2 from rfl]; omega) hsz).mono ?_)
        rintro e W2 ⟨rfl, h2, b2⟩
        go_wp2
        go_roundw
        case rel =>
          refine ⟨k + 1, by omega, by simp, .inr ?_, (hbw.trans b2)⟩
          rw [quote_next hgk, show quoteB s[k] = [92, 116] from by unfold quoteB; rw [if_neg n1, if_neg n2, if_pos (UInt8.toNat_inj.1 c9)], ← List.cons_append, Lib.byteCells_append, show Lib.byteCells [92, 116] = Lib.strCells ⟨#[92, 116]⟩ from rfl]
          simpa only [List.append_assoc, List.cons_append, List.nil_append] using h2
        case measure => simp [intOf]; omega
      have n3 : ¬ s[k] = 9 := fun e => by rw [e] at c9; exact c9 rfl
      by_cases c13 : s[k].toNat = 13
      · go_wp2_with (go_at_call 22; refine (bld_text _ _ _ _ _ hI (by rw [show ByteArray.size ⟨#[_, _]⟩ = 2 from rfl]; omega) hsz).mono ?_)
        rintro e W2 ⟨rfl, h2, b2⟩
        go_wp2
        go_roundw
        case rel =>
          refine ⟨k + 1, by omega, by simp, .inr ?_, (hbw.trans b2)⟩
          rw [quote_next hgk, show quoteB s[k] = [92, 114] from by unfold quoteB; rw [if_neg n1, if_neg n2, if_neg n3, if_pos (UInt8.toNat_inj.1 c13)], ← List.cons_append, Lib.byteCells_append, show Lib.byteCells [92, 114] = Lib.strCells ⟨#[92, 114]⟩ from rfl]
          simpa only [List.append_assoc, List.cons_append, List.nil_append] using h2
        case measure => simp [intOf]; omega
      have n4 : ¬ s[k] = 13 := fun e => by rw [e] at c13; exact c13 rfl
      by_cases cl : s[k].toNat < 32
      · go_wp2_with (go_at_call 21; refine (bld_byte _ _ _ _ _ hI (by omega) hsz).mono ?_)
        rintro e W2 rfl h2 b2
        have hz2 := Nat.le_trans hsz b2.size
        go_wp2_with (go_at_call 21; refine (bld_byte _ _ _ _ _ (.inr h2) (by simp only [List.length_append, List.length_cons, List.length_nil]; omega) hz2).mono ?_)
        rintro e W3 ⟨rfl, h3, b3⟩
        have hz3 := Nat.le_trans hz2 b3.size
        go_wp2_with (go_at_call 21; refine (bld_byte _ _ _ _ _ (.inr h3) (by simp only [List.length_append, List.length_cons, List.length_nil]; omega) hz3).mono ?_)
        rintro e W4 ⟨rfl, h4, b4⟩
        have hz4 := Nat.le_trans hz3 b4.size
        go_wp2_with (go_at_call 21; refine (bld_byte _ _ _ _ _ (.inr h4) (by simp only [List.length_append, List.length_cons, List.length_nil]; omega) hz4).mono ?_)
        rintro e W5 ⟨rfl, h5, b5⟩
        have hz5 := Nat.le_trans hz4 b5.size
        go_wp2
        go_roundw
        case rel =>
          refine ⟨k + 1, by omega, by simp, .inr ?_, ((((hbw.trans b2).trans b3).trans b4).trans b5)⟩
          rw [quote_next hgk, show quoteB s[k] = [92, (48 : UInt8) + (s[k] >>> (6 : UInt8)), (48 : UInt8) + ((s[k] >>> (3 : UInt8)) &&& 7), (48 : UInt8) + (s[k] &&& 7)] from by unfold quoteB; rw [if_neg n1, if_neg n2, if_neg n3, if_neg n4, if_pos (.inl (UInt8.lt_iff_toNat_lt.2 cl))], ← List.cons_append, Lib.byteCells_append, show Lib.byteCells [92, (48 : UInt8) + (s[k] >>> (6 : UInt8)), (48 : UInt8) + ((s[k] >>> (3 : UInt8)) &&& 7), (48 : UInt8) + (s[k] &&& 7)] = Value.int .u8 92 :: octV4 s[k] from by rw [← oct_low _ cl]; rfl]
          simpa only [List.append_assoc, List.cons_append, List.nil_append, octV4] using h5
        case measure => simp [intOf]; omega
      by_cases ch : s[k].toNat > 126
      · go_wp2_with (go_at_call 21; refine (bld_byte _ _ _ _ _ hI (by omega) hsz).mono ?_)
        rintro e W2 ⟨rfl, h2, b2⟩
        have hz2 := Nat.le_trans hsz b2.size
        go_wp2_with (go_at_call 21; refine (bld_byte _ _ _ _ _ (.inr h2) (by simp only [List.length_append, List.length_cons, List.length_nil]; omega) hz2).mono ?_)
        rintro e W3 ⟨rfl, h3, b3⟩
        have hz3 := Nat.le_trans hz2 b3.size
        go_wp2_with (go_at_call 21; refine (bld_byte _ _ _ _ _ (.inr h3) (by simp only [List.length_append, List.length_cons, List.length_nil]; omega) hz3).mono ?_)
        rintro e W4 ⟨rfl, h4, b4⟩
        have hz4 := Nat.le_trans hz3 b4.size
        go_wp2_with (go_at_call 21; refine (bld_byte _ _ _ _ _ (.inr h4) (by simp only [List.length_append, List.length_cons, List.length_nil]; omega) hz4).mono ?_)
        rintro e W5 ⟨rfl, h5, b5⟩
        have hz5 := Nat.le_trans hz4 b5.size
        go_wp2
        go_roundw
        case rel =>
          refine ⟨k + 1, by omega, by simp, .inr ?_, ((((hbw.trans b2).trans b3).trans b4).trans b5)⟩
          rw [quote_next hgk, show quoteB s[k] = [92, (48 : UInt8) + (s[k] >>> (6 : UInt8)), (48 : UInt8) + ((s[k] >>> (3 : UInt8)) &&& 7), (48 : UInt8) + (s[k] &&& 7)] from by unfold quoteB; rw [if_neg n1, if_neg n2, if_neg n3, if_neg n4, if_pos (.inr (UInt8.lt_iff_toNat_lt.2 ch))], ← List.cons_append, Lib.byteCells_append, show Lib.byteCells [92, (48 : UInt8) + (s[k] >>> (6 : UInt8)), (48 : UInt8) + ((s[k] >>> (3 : UInt8)) &&& 7), (48 : UInt8) + (s[k] &&& 7)] = Value.int .u8 92 :: octV3 s[k] from by rw [← oct_cells]; rfl]
          simpa only [List.append_assoc, List.cons_append, List.nil_append, octV3] using h5
        case measure => simp [intOf]; omega
      go_wp2_with (go_at_call 21; refine (bld_byte _ _ _ _ _ hI (by omega) hsz).mono ?_)
      rintro e W2 ⟨rfl, h2, b2⟩
      have hz2 := Nat.le_trans hsz b2.size
      go_wp2
      go_roundw
      case rel =>
        refine ⟨k + 1, by omega, by simp, .inr ?_, (hbw.trans b2)⟩
        rw [quote_next hgk, show quoteB s[k] = [s[k]] from by unfold quoteB; rw [if_neg n1, if_neg n2, if_neg n3, if_neg n4, if_neg (by rw [UInt8.lt_iff_toNat_lt, UInt8.lt_iff_toNat_lt]; rintro (e | e); exact cl e; exact ch e)], ← List.cons_append, Lib.byteCells_append, show Lib.byteCells [s[k]] = [Value.int .u8 (s[k].toNat : Int)] from rfl]
        simpa only [List.append_assoc, List.cons_append, List.nil_append] using h2
      case measure => simp [intOf]; omega
    · have hk2 : k = s.size := by omega
      subst hk2
      rw [show s.size = s.data.toList.length from ba_size s, List.take_length] at hI
      have hle := quoteBs_len s.data.toList
      rw [← ba_size s] at hle
      have hsz : w.heap.size ≤ wr.heap.size := hbw.size
      go_wp2_with (go_at_call 21; refine (bld_byte _ _ _ _ _ hI (by rw [Lib.byteCells_length]; simp only [List.length_cons]; omega) hsz).mono ?_)
      rintro e W2 ⟨rfl, h2, b2⟩
      have h3 : Lib.BuilderAt 53 5 w.heap.size w.heap.size (.pointer (some ⟨w.heap.size, 0, none⟩)) (Lib.byteCells (quoteL s.data.toList)) W2 := by
        rw [quoteL, ← List.cons_append, Lib.byteCells_append]; exact h2
      go_wp2_with (go_at_call 23; refine (bld_string _ _ _ _ (.inr h3) (by simp [quoteL])).mono ?_)
      rintro e W3 ⟨rfl, b3⟩
      go_wp2
      go_ret
      exact ⟨rfl, (hbw.trans b2).trans b3⟩

theorem Quote_spec (s : ByteArray) (hs : s.size ≤ 1073741824) : pureF Try.prog 15 [.p (.str s)] (.p (.str ⟨(quoteL s.data.toList).toArray⟩)) := by
  intro H μ w xs hi hx
  obtain ⟨hsz, hat⟩ := hx
  obtain ⟨x, rfl⟩ : ∃ x, xs = #[x] := by
    match xs, hsz with
    | ⟨[x]⟩, _ => exact ⟨x, rfl⟩
  have hx0 := (hat 0 x _ rfl rfl).str_inv
  subst hx0
  refine (quote_walk s w hs).mono ?_
  rintro e w' ⟨rfl, bel⟩
  exact ⟨_, _, H, μ, rfl, ⟨rfl, rfl⟩, hi.kept bel.size bel.block, .p _ _ (.str _), ⟨bel.os, bel.tape, bel.output, .refl _, ⟨bel.size, fun b hb hm => ⟨hm, bel.block b hb⟩⟩⟩⟩

end Go.Proofs.Ytnbkbmpjggemaaa.AD
