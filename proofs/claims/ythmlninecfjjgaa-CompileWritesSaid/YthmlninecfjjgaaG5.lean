/- Chapter 20: trees, and how large they are. -/
import Derived.Test.YthmlninecfjjgaaG4
import Derived.ChangeArms
import Derived.SizedLaws
import Derived.Lib.Bytealg
import Derived.Laws.Externs
import Derived.Test.YthmlninecfjjgaaRows
import Derived.WalkKit
import Derived.ProofKit
import Derived.OpenShut
import Derived.ShutString
import Derived.ChangeOld
import Derived.Below
namespace Go.Proofs.Ythmlninecfjjgaa.AD
open Go.Proofs
set_option linter.unusedVariables false
set_option linter.unusedSimpArgs false
set_option maxRecDepth 100000

inductive Ex where
  | mk (op : Int) (text : ByteArray) (args : List Ex)

theorem Ex.ind {motive : Ex → Prop} (h : ∀ o t xs, (∀ a, a ∈ xs → motive a) → motive (.mk o t xs)) (e : Ex) : motive e := by
  match e with
  | .mk o t xs => exact h o t xs fun a ha => Ex.ind h a
termination_by SizeOf.sizeOf e
decreasing_by
  have := List.sizeOf_lt_of_mem ha
  simp only [Ex.mk.sizeOf_spec]
  omega

mutual
def enc : Ex → PV
  | .mk o t xs => .agg [.int .u8 o, .str t, .list 3 (encs xs)]
def encs : List Ex → List PV
  | [] => []
  | a :: r => enc a :: encs r
end

theorem encs_map : ∀ l, encs l = l.map enc
  | [] => rfl
  | a :: r => by rw [encs, encs_map r]; rfl

mutual
def size : Ex → Int → Int
  | .mk _ _ xs, most => sizes xs most 1
def sizes : List Ex → Int → Int → Int
  | [], most, n => n
  | a :: r, most, n => if n ≤ most then sizes r most (n + size a (most - n)) else n
end

theorem sizes_le : (∀ e most, 1 ≤ size e most ∧ (size e most ≤ 1 ∨ size e most ≤ most + 1)) ∧ ∀ l most n, 1 ≤ n → n ≤ sizes l most n ∧ (sizes l most n ≤ n ∨ sizes l most n ≤ most + 1) := by
  have main : ∀ l, (∀ a, a ∈ l → ∀ most, 1 ≤ size a most ∧ (size a most ≤ 1 ∨ size a most ≤ most + 1)) → ∀ most n, 1 ≤ n → n ≤ sizes l most n ∧ (sizes l most n ≤ n ∨ sizes l most n ≤ most + 1) := by
    intro l
    induction l with
    | nil => intro _ most n h; simp only [sizes]; omega
    | cons a r ih =>
      intro hl most n h
      simp only [sizes]
      split
      · have := hl a (by simp) (most - n)
        have := ih (fun b hb => hl b (by simp [hb])) most (n + size a (most - n)) (by omega)
        omega
      · omega
  have one : ∀ e most, 1 ≤ size e most ∧ (size e most ≤ 1 ∨ size e most ≤ most + 1) := by
    intro e
    induction e using Ex.ind with
    | h o t xs ih => intro most; simp only [size]; have := main xs ih most 1 (by omega); omega
  exact ⟨one, fun l => main l fun a _ => one a⟩

/-- Nothing in it is larger than can be counted. -/
inductive Fits : Ex → Prop
  | mk (o : Int) (t : ByteArray) (xs : List Ex) : 0 ≤ o → (t.size : Int) ≤ 9223372036854775807 → (xs.length : Int) ≤ 9223372036854775807 → (∀ a, a ∈ xs → Fits a) → Fits (.mk o t xs)

theorem encs_get {xs : List Ex} {i : Nat} {a : Ex} (h : xs[i]? = some a) : (encs xs)[i]? = some (enc a) := by rw [encs_map, List.getElem?_map, h]; rfl
theorem encs_len (xs : List Ex) : (encs xs).length = xs.length := by rw [encs_map, List.length_map]

end Go.Proofs.Ythmlninecfjjgaa.AD

namespace Go.Proofs.Ythmlninecfjjgaa.AD
open Go.Proofs
set_option linter.unusedVariables false
set_option linter.unusedSimpArgs false
set_option maxRecDepth 100000

/-- Cells that stand for these. -/
def CellsIn (W : World) (cs : List Value) (ps : List PV) : Prop := cs.length = ps.length ∧ ∀ (j : Nat) (x : Value) (p : PV), cs[j]? = some x → ps[j]? = some p → VP (fun _ => False) W x p ∧ x.oneCell' = true

theorem cells?_out {w : World} {base : Nat} {a : Addr} {n : Nat} {cs : List Value} (h : w.cells? base a n = some cs) : cs.length = n ∧ ∀ (i : Nat) (u : Value), cs[i]? = some u → w.cell? (a.add i) = some u := by
  unfold World.cells? at h
  split at h
  · have hl := mapM_some_length h
    rw [List.length_range] at hl
    refine ⟨hl, fun i u hu => ?_⟩
    have hi : i < n := by
      have := (List.getElem?_eq_some_iff.1 hu).1
      omega
    have := mapM_some_get h i i (by simp [hi])
    rw [this]; exact hu
  · cases h

theorem cell_spot {w : World} {a : Addr} {v : Value} (h : w.cell? a = some v) : a.spot = none ∧ a.block < w.heap.size := by
  unfold World.cell? at h
  split at h
  · rename_i hb
    split at h
    · cases h
    · rename_i hs
      exact ⟨by simpa using hs, (Array.getElem?_eq_some_iff.1 hb).1⟩
  · cases h

/-- A row of elements of more cells than one, each read. -/
theorem row_in {W : World} {base : Nat} {a : Addr} {len cap sz : Nat} {α : Type} (cellsOf : α → List PV) (good : α → Prop) (hsz : ∀ x, (cellsOf x).length = sz) (h0 : 0 < sz) (hc : len ≤ cap)
    (hel : ∀ i, i < len → ∃ cs x, W.cells? base (a.add (i * sz)) sz = some cs ∧ CellsIn W cs (cellsOf x) ∧ good x) :
    ∃ xs : List α, xs.length = len ∧ (∀ x, x ∈ xs → good x) ∧ VP (fun _ => False) W (.slice (some a) len cap) (.list sz (xs.map fun x => .agg (cellsOf x))) := by
  have key : ∀ m, m ≤ len → ∃ xs : List α, xs.length = m ∧ ∀ (j : Nat) (x : α), xs[j]? = some x → good x ∧ ∃ cs, W.cells? base (a.add (j * sz)) sz = some cs ∧ CellsIn W cs (cellsOf x) := by
    intro m
    induction m with
    | zero => intro _; exact ⟨[], rfl, fun j x h => by simp at h⟩
    | succ m ih =>
      intro hm
      obtain ⟨xs, hl, hx⟩ := ih (by omega)
      obtain ⟨cs, x, h1, h2, h3⟩ := hel m (by omega)
      refine ⟨xs ++ [x], by simp [hl], fun j z hz => ?_⟩
      rcases Nat.lt_or_ge j xs.length with hj | hj
      · rw [List.getElem?_append_left hj] at hz; exact hx j z hz
      · rw [List.getElem?_append_right hj] at hz
        have hj2 : j = m := by have := get_lt hz; simp at this; omega
        subst hj2
        rw [hl, Nat.sub_self] at hz
        obtain rfl : x = z := by simpa using hz
        exact ⟨h3, cs, h1, h2⟩
  obtain ⟨xs, hl, hx⟩ := key len (Nat.le_refl _)
  refine ⟨xs, hl, fun x hm => ?_, ?_⟩
  · obtain ⟨j, hj⟩ := List.mem_iff_getElem?.1 hm
    exact (hx j x hj).1
  · rcases Nat.eq_zero_or_pos len with h | h
    · subst h
      obtain rfl : xs = [] := List.length_eq_zero_iff.1 hl
      exact .list0 sz _ _ fun e => by cases e
    · obtain ⟨_, cs0, g1, g2⟩ := hx 0 xs[0] (List.getElem?_eq_getElem (by omega))
      obtain ⟨g3, g4⟩ := cells?_out g1
      have g5 := g4 0 cs0[0] (List.getElem?_eq_getElem (by omega))
      have hadd : (a.add (0 * sz)).add 0 = a := by simp [Addr.add]
      rw [hadd] at g5
      obtain ⟨g6, g7⟩ := cell_spot g5
      obtain ⟨b, off, sp⟩ := a
      simp only at g6 g7
      subst g6
      have hch : ∀ j, ∃ v : Value, ∀ x, xs[j]? = some x → v.cells.size = sz ∧ (∀ (i : Nat) (u : Value), v.cells[i]? = some u → u.oneCell' = true ∧ W.cell? ⟨b, off + (j * sz + i), none⟩ = some u) ∧ VP (fun _ => False) W v (.agg (cellsOf x)) := fun j => by
        by_cases hj : j < xs.length
        · obtain ⟨_, cs, k1, k2⟩ := hx j xs[j] (List.getElem?_eq_getElem hj)
          obtain ⟨k3, k4⟩ := cells?_out k1
          refine ⟨.agg cs.toArray, fun x hxj => ?_⟩
          rw [List.getElem?_eq_getElem hj] at hxj
          cases hxj
          refine ⟨by simp [Value.cells, k3], fun i u hu => ?_, .agg _ _ (by simp [k3, hsz]) (fun i u p hu hp => ?_) fun i u hu => ?_⟩
          · have hu' : cs[i]? = some u := by simpa [Value.cells] using hu
            have hi : i < (cellsOf xs[j]).length := by have := get_lt hu'; rw [hsz]; omega
            refine ⟨(k2.2 i u _ hu' (List.getElem?_eq_getElem hi)).2, ?_⟩
            have := k4 i u hu'
            rw [← this]
            simp only [add_none, Nat.add_assoc]
          · exact (k2.2 i u p (by simpa using hu) hp).1
          · have hu' : cs[i]? = some u := by simpa using hu
            have hi : i < (cellsOf xs[j]).length := by have := get_lt hu'; rw [hsz]; omega
            exact (k2.2 i u _ hu' (List.getElem?_eq_getElem hi)).2
        · exact ⟨default, fun x hxj => absurd (get_lt hxj) hj⟩
      have hv := VP.list (M := fun _ => False) (w := W) b off cap sz (xs.map fun x => PV.agg (cellsOf x)) (fun j => Classical.choose (hch j)) (fun h => h) g7 (by simp [hl]; exact hc)
        (fun j e he => by
          rw [List.getElem?_map] at he
          obtain ⟨x, hxj, rfl⟩ := Option.map_eq_some_iff.1 he
          exact (Classical.choose_spec (hch j) x hxj).1)
        (fun j e he => by
          rw [List.getElem?_map] at he
          obtain ⟨x, hxj, rfl⟩ := Option.map_eq_some_iff.1 he
          exact (Classical.choose_spec (hch j) x hxj).2.1)
        (fun j e he => by
          rw [List.getElem?_map] at he
          obtain ⟨x, hxj, rfl⟩ := Option.map_eq_some_iff.1 he
          exact (Classical.choose_spec (hch j) x hxj).2.2)
      rw [List.length_map, hl] at hv
      exact hv

def exCells : Ex → List PV
  | .mk o t xs => [.int .u8 o, .str t, .list 3 (encs xs)]
theorem enc_cells (e : Ex) : enc e = .agg (exCells e) := by cases e; rfl

/-- The types that a tree has. -/
structure ExTypes (P : Program) (tE tO tT tA : TypeId) : Prop where
  fs : ∃ f0 f1 f2 : Field, P.underlying tE = some (.struct #[f0, f1, f2]) ∧ (f0.type = tO ∧ f0.offset = 0) ∧ (f1.type = tT ∧ f1.offset = 1) ∧ (f2.type = tA ∧ f2.offset = 2)
  o : P.underlying tO = some (.int .u8)
  t : P.underlying tT = some .string
  a : P.underlying tA = some (.slice tE)
  sizes : P.cellsOf tE = 3 ∧ P.cellsOf tO = 1 ∧ P.cellsOf tT = 1 ∧ P.cellsOf tA = 1

theorem open_ex {P : Program} {tE tO tT tA : TypeId} (hT : ExTypes P tE tO tT tA) {H : Type} {encH : TypeId × Value → H} {W : World} {base : Nat} {spare : Nat → Bool} {held : Bool} :
    ∀ (fuel : Nat) (cs : List Value) (y : DataW H) (p : List MemPlace), DataW.trod encH P W base spare held fuel tE cs = some (y, p) → ∃ e : Ex, Fits e ∧ CellsIn W cs (exCells e) := by
  intro fuel
  induction fuel using Nat.strongRecOn with
  | _ fuel ih =>
    intro cs y p h
    obtain ⟨f0, f1, f2, hE, ⟨a1, a2⟩, ⟨b1, b2⟩, c1, c2⟩ := hT.fs
    obtain ⟨s1, s2, s3, s4⟩ := hT.sizes
    obtain ⟨xs, n, rfl, _, hl, hxl, hf⟩ := DataW.trod_struct hE h
    rw [s1] at hl
    have hxl : xs.length = 3 := hxl
    match cs, hl with
    | [u0, u1, u2], _ =>
    have g0 := hf 0 f0 rfl
    have g1 := hf 1 f1 rfl
    have g2 := hf 2 f2 rfl
    rw [a1, a2, s2, List.getElem?_eq_getElem (by omega)] at g0
    rw [b1, b2, s3, List.getElem?_eq_getElem (by omega)] at g1
    rw [c1, c2, s4, List.getElem?_eq_getElem (by omega)] at g2
    obtain ⟨o, ho, _, hw⟩ := DataW.trod_int hT.o g0
    obtain ⟨t, ht, _, hts⟩ := DataW.trod_string hT.t g1
    obtain rfl : u0 = .int .u8 o := by simpa using ho
    obtain rfl : u1 = .string t := by simpa using ht
    have ho0 : 0 ≤ o := by
      simp only [Lit.wf, Bool.and_eq_true, decide_eq_true_eq] at hw
      have h1 := hw.1
      have : IntKind.u8.min = 0 := by decide
      omega
    have hmax : maxLen ≤ 9223372036854775807 := by decide
    have fin : ∀ ys : List Ex, (ys.length : Int) ≤ 9223372036854775807 → (∀ a, a ∈ ys → Fits a) → VP (fun _ => False) W u2 (.list 3 (encs ys)) → u2.oneCell' = true → ∃ e : Ex, Fits e ∧ CellsIn W [.int .u8 o, .string t, u2] (exCells e) := fun ys h1 h2 h3 h4 => by
      refine ⟨.mk o t ys, .mk o t ys ho0 (by omega) h1 h2, rfl, fun j x q hx hq => ?_⟩
      match j, hx, hq with
      | 0, hx, hq => cases hx; cases hq; exact ⟨.int _ _, rfl⟩
      | 1, hx, hq => cases hx; cases hq; exact ⟨.str _, rfl⟩
      | 2, hx, hq => cases hx; cases hq; exact ⟨h3, h4⟩
    rcases DataW.trod_slice hT.a g2 with ⟨hs, _⟩ | ⟨a, len, cap, elems, rest, m, rfl, hs, _, _, hlc, hcm, hel, hr, _⟩
    · obtain rfl : u2 = .slice none 0 0 := by simpa using hs
      exact fin [] (by simp) (fun a ha => by cases ha) (.list0 3 _ _ fun _ => rfl) rfl
    · obtain rfl : u2 = .slice (some a) len cap := by simpa using hs
      rw [s1] at hr
      obtain ⟨ys, hyl, hy, hv⟩ := row_in (W := W) (base := base) (a := a) (len := len) (cap := cap) (sz := 3) exCells Fits (fun x => by cases x; rfl) (by omega) hlc fun i hi => by
        have h1 := hr i hi
        rw [List.getElem?_eq_getElem (by omega)] at h1
        obtain ⟨c, hc1, hc2⟩ := Option.bind_eq_some_iff.1 h1
        obtain ⟨e, he1, he2⟩ := ih m (by omega) c _ _ hc2
        exact ⟨c, e, hc1, he2, he1⟩
      have e1 : (ys.map fun x => PV.agg (exCells x)) = encs ys := by
        rw [encs_map]
        exact List.map_congr_left fun x _ => (enc_cells x).symm
      rw [e1] at hv
      exact fin ys (by omega) hy hv rfl

end Go.Proofs.Ythmlninecfjjgaa.AD

namespace Go.Proofs.Ythmlninecfjjgaa.AD
open Go.Proofs
set_option linter.unusedVariables false
set_option linter.unusedSimpArgs false
set_option maxRecDepth 100000

def letterB (n : Int) : Bool := (decide (97 ≤ n) && decide (n ≤ 122)) || (decide (65 ≤ n) && decide (n ≤ 90)) || decide (n = 95)
def digitB (n : Int) : Bool := decide (48 ≤ n) && decide (n ≤ 57)

theorem refLetter_spec (n : Int) : pureF Try.prog 112 [.p (.int .u8 n)] (.p (.bool (letterB n))) := by
  refine pureF_of f112_ok fun H => ?_
  repeat' ((conv => whnf); (first | refine splitB_t rfl ?_ | refine splitB_f rfl ?_ | refine splitB_dec (fun h => ?_) (fun h => ?_) | refine splitB_eq (fun h => ?_) (fun h => ?_) | refine splitB_ne (fun h => ?_) (fun h => ?_) | refine splitB_intro (fun h => ?_) (fun h => ?_)))
  all_goals exact ⟨congrArg (fun b => AV.p (PV.bool b)) (by rw [Bool.eq_iff_iff]; simp [letterB] <;> omega), rfl⟩
theorem letter_spec (n : Int) : pureF Try.prog 104 [.p (.int .u8 n)] (.p (.bool (letterB n))) := by
  refine pureF_of f104_ok fun H => ?_
  repeat' ((conv => whnf); (first | refine splitB_t rfl ?_ | refine splitB_f rfl ?_ | refine splitB_dec (fun h => ?_) (fun h => ?_) | refine splitB_eq (fun h => ?_) (fun h => ?_) | refine splitB_ne (fun h => ?_) (fun h => ?_) | refine splitB_intro (fun h => ?_) (fun h => ?_)))
  all_goals exact ⟨congrArg (fun b => AV.p (PV.bool b)) (by rw [Bool.eq_iff_iff]; simp [letterB] <;> omega), rfl⟩
theorem refDigit_spec (n : Int) : pureF Try.prog 113 [.p (.int .u8 n)] (.p (.bool (digitB n))) := by
  refine pureF_of f113_ok fun H => ?_
  repeat' ((conv => whnf); (first | refine splitB_t rfl ?_ | refine splitB_f rfl ?_ | refine splitB_dec (fun h => ?_) (fun h => ?_) | refine splitB_eq (fun h => ?_) (fun h => ?_) | refine splitB_ne (fun h => ?_) (fun h => ?_) | refine splitB_intro (fun h => ?_) (fun h => ?_)))
  all_goals exact ⟨congrArg (fun b => AV.p (PV.bool b)) (by rw [Bool.eq_iff_iff]; simp [digitB] <;> omega), rfl⟩
theorem digit_spec (n : Int) : pureF Try.prog 107 [.p (.int .u8 n)] (.p (.bool (digitB n))) := by
  refine pureF_of f107_ok fun H => ?_
  repeat' ((conv => whnf); (first | refine splitB_t rfl ?_ | refine splitB_f rfl ?_ | refine splitB_dec (fun h => ?_) (fun h => ?_) | refine splitB_eq (fun h => ?_) (fun h => ?_) | refine splitB_ne (fun h => ?_) (fun h => ?_) | refine splitB_intro (fun h => ?_) (fun h => ?_)))
  all_goals exact ⟨congrArg (fun b => AV.p (PV.bool b)) (by rw [Bool.eq_iff_iff]; simp [digitB] <;> omega), rfl⟩

def arityI (op : Int) : Int :=
  if op = 1 ∨ op = 2 ∨ op = 5 ∨ op = 7 ∨ op = 26 ∨ op = 27 then 0
  else if op = 3 ∨ op = 6 ∨ op = 8 ∨ op = 9 ∨ op = 25 then 1
  else if 1 ≤ op ∧ op ≤ 27 then 2 else -1
theorem Parts_spec (n : Int) : pureF Try.prog 98 [.p (.int .u8 n)] (.p (.int .i64 (arityI n))) := by
  refine pureF_of f98_ok fun H => ?_
  repeat' ((conv => whnf); (first | refine splitB_t rfl ?_ | refine splitB_f rfl ?_ | refine splitB_dec (fun h => ?_) (fun h => ?_) | refine splitB_eq (fun h => ?_) (fun h => ?_) | refine splitB_ne (fun h => ?_) (fun h => ?_) | refine splitB_intro (fun h => ?_) (fun h => ?_)))
  all_goals exact ⟨by simp_all [arityI] <;> omega, rfl⟩
theorem arity_spec (n : Int) (h0 : 0 ≤ n) : pureF Try.prog 88 [.p (.int .u8 n)] (.p (.int .i64 (arityI n))) := by
  refine pureF_of f88_ok fun H => ?_
  repeat' ((conv => whnf); (first | refine splitB_t rfl ?_ | refine splitB_f rfl ?_ | refine splitB_dec (fun h => ?_) (fun h => ?_) | refine splitB_eq (fun h => ?_) (fun h => ?_) | refine splitB_ne (fun h => ?_) (fun h => ?_) | refine splitB_intro (fun h => ?_) (fun h => ?_)))
  all_goals exact ⟨by simp_all [arityI] <;> omega, rfl⟩
end Go.Proofs.Ythmlninecfjjgaa.AD

namespace Go.Proofs.Ythmlninecfjjgaa.AD
open Go.Proofs
set_option linter.unusedVariables false
set_option linter.unusedSimpArgs false
set_option maxRecDepth 100000

def neS (s : ByteArray) : Bool := !(s.toList == (⟨#[]⟩ : ByteArray).toList)
def digitsB (s : ByteArray) : Bool := (s.data.toList.all fun c => digitB c.toNat) && neS s
def nameB (s : ByteArray) : Bool := (match s.data.toList with | [] => false | c :: r => letterB c.toNat && r.all fun c => letterB c.toNat || digitB c.toNat)

theorem sz_lt {s : ByteArray} {i : Nat} {r : List UInt8} {c : UInt8} (h : s.data.toList.drop i = c :: r) : i < s.size := by rw [ba_size]; exact (drop_cons h).2.2
theorem sz_le {s : ByteArray} {i : Nat} (h : s.data.toList.drop i = []) : s.size ≤ i := by rw [ba_size]; exact drop_nil h

theorem refDigits_spec (s : ByteArray) (hs : (s.size : Int) ≤ 9223372036854775807) : pureF Try.prog 100 [.p (.str s)] (.p (.bool (digitsB s))) := by
  refine pureF_of f100_ok fun H => ?_
  (conv => whnf)
  intro R hR
  have key : ∀ (rest : List UInt8) (i : Nat), s.data.toList.drop i = rest → ((rest.all fun c => digitB c.toNat) && neS s) = digitsB s → R [(0, .p (.str s)), (3, .p (.int .i64 i))] H [] := by
    intro rest
    induction rest with
    | nil =>
      intro i hd hq
      have hl := sz_le hd
      refine hR _ _ _ ?_
      (conv => whnf)
      refine splitB_f (decide_eq_false (by omega)) ?_
      exact ⟨by rw [← hq]; rfl, rfl⟩
    | cons c r ih =>
      intro i hd hq
      obtain ⟨hg, hd', _⟩ := drop_cons hd
      have hl := sz_lt hd
      refine hR _ _ _ ?_
      (conv => whnf)
      refine splitB_t (decide_eq_true (by omega)) ?_
      (conv => whnf)
      refine ⟨c, ⟨by omega, hg⟩, ?_⟩
      (conv => whnf)
      have bad : digitB c.toNat = false → digitsB s = false := fun h => by rw [← hq, List.all_cons, h]; rfl
      refine splitB_dec (fun h => ?_) (fun h => ?_)
      · (conv => whnf)
        refine splitB_t rfl ?_
        exact ⟨by rw [bad (by simp [digitB]; omega)], rfl⟩
      · (conv => whnf)
        refine ⟨c, ⟨by omega, hg⟩, ?_⟩
        (conv => whnf)
        refine splitB_dec (fun h2 => ?_) (fun h2 => ?_)
        · exact ⟨by rw [bad (by simp [digitB]; omega)], rfl⟩
        · (conv => whnf)
          rw [IntWalk.i64_in _ (by omega)]
          refine ih (i + 1) hd' ?_
          rw [← hq, List.all_cons, show digitB c.toNat = true by simp [digitB]; omega, Bool.true_and]
  exact key _ 0 rfl rfl

theorem digits_spec (s : ByteArray) (hs : (s.size : Int) ≤ 9223372036854775807) : pureF Try.prog 90 [.p (.str s)] (.p (.bool (digitsB s))) := by
  refine pureF_of f90_ok fun H => ?_
  (conv => whnf)
  intro R hR
  have key : ∀ (rest : List UInt8) (i : Nat), s.data.toList.drop i = rest → ((rest.all fun c => digitB c.toNat) && neS s) = digitsB s → R [(0, .p (.str s)), (5, .p (.int .i64 s.size)), (6, .p (.int .i64 i))] H [] := by
    intro rest
    induction rest with
    | nil =>
      intro i hd hq
      have hl := sz_le hd
      refine hR _ _ _ ?_
      (conv => whnf)
      refine splitB_f (decide_eq_false (by omega)) ?_
      exact ⟨by rw [← hq]; rfl, rfl⟩
    | cons c r ih =>
      intro i hd hq
      obtain ⟨hg, hd', _⟩ := drop_cons hd
      have hl := sz_lt hd
      refine hR _ _ _ ?_
      (conv => whnf)
      refine splitB_t (decide_eq_true (by omega)) ?_
      (conv => whnf)
      refine ⟨c, ⟨by omega, hg⟩, ?_⟩
      (conv => whnf)
      have bad : digitB c.toNat = false → digitsB s = false := fun h => by rw [← hq, List.all_cons, h]; rfl
      refine splitB_dec (fun h => ?_) (fun h => ?_)
      · (conv => whnf)
        refine splitB_t rfl ?_
        exact ⟨by rw [bad (by simp [digitB]; omega)], rfl⟩
      · (conv => whnf)
        refine ⟨c, ⟨by omega, hg⟩, ?_⟩
        (conv => whnf)
        refine splitB_dec (fun h2 => ?_) (fun h2 => ?_)
        · exact ⟨by rw [bad (by simp [digitB]; omega)], rfl⟩
        · (conv => whnf)
          rw [IntWalk.i64_in _ (by omega)]
          refine ih (i + 1) hd' ?_
          rw [← hq, List.all_cons, show digitB c.toNat = true by simp [digitB]; omega, Bool.true_and]
  exact key _ 0 rfl rfl

theorem neS_iff (s : ByteArray) : neS s = !s.data.toList.isEmpty := by
  unfold neS
  rw [ba_toList, ba_toList]
  cases s.data.toList <;> rfl

theorem refName_spec (s : ByteArray) (hs : (s.size : Int) ≤ 9223372036854775807) : pureF Try.prog 99 [.p (.str s)] (.p (.bool (nameB s))) := by
  refine pureF_of f99_ok fun H => ?_
  (conv => whnf)
  intro R hR
  have key : ∀ (rest : List UInt8) (i : Nat), s.data.toList.drop (i + 1) = rest → nameB s = (neS s && rest.all fun c => letterB c.toNat || digitB c.toNat) → R [(0, .p (.str s)), (3, .p (.int .i64 (i + 1 : Nat)))] H [] := by
    intro rest
    induction rest with
    | nil =>
      intro i hd hq
      have hl := sz_le hd
      refine hR _ _ _ ?_
      (conv => whnf)
      refine splitB_f (decide_eq_false (by omega)) ?_
      exact ⟨by rw [hq, List.all_nil, Bool.and_true]; rfl, rfl⟩
    | cons c r ih =>
      intro i hd hq
      obtain ⟨hg, hd', _⟩ := drop_cons hd
      have hl := sz_lt hd
      rw [List.all_cons] at hq
      refine hR _ _ _ ?_
      (conv => whnf)
      refine splitB_t (decide_eq_true (by omega)) ?_
      (conv => whnf)
      refine ⟨c, ⟨by omega, hg⟩, ?_⟩
      (conv => whnf)
      refine CallVC.pureF (refLetter_spec _) rfl ?_
      (conv => whnf)
      refine splitB_intro (fun h => ?_) (fun h => ?_)
      · have h : letterB ↑c.toNat = false := by simpa using h
        rw [h, Bool.false_or] at hq
        (conv => whnf)
        refine splitB_f (beq_eq_false_iff_ne.2 (by omega)) ?_
        (conv => whnf)
        refine ⟨c, ⟨by omega, hg⟩, ?_⟩
        (conv => whnf)
        refine CallVC.pureF (refDigit_spec _) rfl ?_
        (conv => whnf)
        refine splitB_intro (fun h2 => ?_) (fun h2 => ?_)
        · have h2 : digitB ↑c.toNat = false := by simpa using h2
          exact ⟨by rw [hq, h2, Bool.false_and, Bool.and_false], rfl⟩
        · have h2 : digitB ↑c.toNat = true := by simpa using h2
          (conv => whnf)
          rw [IntWalk.i64_in _ (by omega)]
          exact ih (i + 1) hd' (by rw [hq, h2, Bool.true_and])
      · have h : letterB ↑c.toNat = true := by simpa using h
        (conv => whnf)
        refine splitB_f rfl ?_
        (conv => whnf)
        rw [IntWalk.i64_in _ (by omega)]
        exact ih (i + 1) hd' (by rw [hq, h, Bool.true_or, Bool.true_and])
  cases hd : s.data.toList with
  | nil =>
    have hl : s.size = 0 := by rw [ba_size, hd]; rfl
    refine hR _ _ _ ?_
    (conv => whnf)
    refine splitB_f (decide_eq_false (by omega)) ?_
    refine ⟨congrArg (fun b => AV.p (PV.bool b)) ?_, rfl⟩
    show neS s = _
    rw [neS_iff, nameB, hd]
    rfl
  | cons c r =>
    have hl : 0 < s.size := by rw [ba_size, hd]; simp
    have hne : neS s = true := by rw [neS_iff, hd]; rfl
    have hq : nameB s = (letterB c.toNat && r.all fun c => letterB c.toNat || digitB c.toNat) := by rw [nameB, hd]
    refine hR _ _ _ ?_
    (conv => whnf)
    refine splitB_t (decide_eq_true (by omega)) ?_
    (conv => whnf)
    refine ⟨c, ⟨by omega, by rw [hd]; rfl⟩, ?_⟩
    (conv => whnf)
    refine CallVC.pureF (refLetter_spec _) rfl ?_
    (conv => whnf)
    refine splitB_intro (fun h => ?_) (fun h => ?_)
    · have h : letterB ↑c.toNat = false := by simpa using h
      (conv => whnf)
      refine splitB_t rfl ?_
      (conv => whnf)
      refine splitB_t rfl ?_
      exact ⟨by rw [hq, h, Bool.false_and], rfl⟩
    · have h : letterB ↑c.toNat = true := by simpa using h
      (conv => whnf)
      refine splitB_f rfl ?_
      (conv => whnf)
      refine key r 0 (by rw [hd]; rfl) ?_
      rw [hq, h, hne]

/-! ### the program's own -/
theorem nameFn_spec (n : Int) : pureF Try.prog 106 [.p (.int .u8 n)] (.p (.bool (letterB n || digitB n))) := by
  refine pureF_of f106_ok fun H => ?_
  (conv => whnf)
  refine CallVC.pureF (letter_spec _) rfl ?_
  (conv => whnf)
  refine splitB_intro (fun h => ?_) (fun h => ?_)
  · exact ⟨by rw [h, Bool.true_or], rfl⟩
  · (conv => whnf)
    refine CallVC.pureF (digit_spec _) rfl ?_
    exact ⟨by rw [h, Bool.false_or], rfl⟩

/-- How far a text goes on with such bytes. -/
def whileL (p : UInt8 → Bool) : List UInt8 → Nat
  | [] => 0
  | c :: r => if p c then whileL p r + 1 else 0

theorem while_spec (s : ByteArray) (hs : (s.size : Int) ≤ 9223372036854775807) (f : Nat) (hf : enters Try.prog f = true) (p : UInt8 → Bool) (hp : ∀ c : UInt8, pureF Try.prog f [.p (.int .u8 c.toNat)] (.p (.bool (p c)))) (id : Nat) (more : List AV) (H : List Ob) (hH : H[id]? = some (.cells (.p (.str s) :: more))) (i : Nat) (hi : i ≤ s.size) :
    callA Try.prog 105 [.ref (.b id) 0, .p (.int .i64 i), .p (.fn (.func f))] H fun r H' => r = .p (.int .i64 (i + whileL p (s.data.toList.drop i) : Nat)) ∧ H' = H := by
  refine sound f105_ok ?_
  (conv => whnf)
  intro R hR
  have key : ∀ (rest : List UInt8) (j : Nat), s.data.toList.drop j = rest → j ≤ s.size → j + whileL p rest = i + whileL p (s.data.toList.drop i) → R [(0, .ref (.b id) 0), (1, .p (.int .i64 j)), (2, .p (.fn (.func f)))] H [] := by
    intro rest
    induction rest with
    | nil =>
      intro j hd hj hq
      have hl := sz_le hd
      refine hR _ _ _ ?_
      (conv => whnf)
      refine atK_in _ _ _ _ hH ?_
      (conv => whnf)
      refine splitB_f (decide_eq_false (by omega)) ?_
      (conv => whnf)
      exact ⟨by rw [← hq]; rfl, rfl⟩
    | cons c r ih =>
      intro j hd hj hq
      obtain ⟨hg, hd', _⟩ := drop_cons hd
      have hl := sz_lt hd
      refine hR _ _ _ ?_
      (conv => whnf)
      refine atK_in _ _ _ _ hH ?_
      (conv => whnf)
      refine splitB_t (decide_eq_true (by omega)) ?_
      (conv => whnf)
      refine atK_in _ _ _ _ hH ?_
      (conv => whnf)
      refine ⟨c, ⟨by omega, hg⟩, ?_⟩
      (conv => whnf)
      refine ⟨hf, ?_⟩
      refine CallVC.pureF (hp c) rfl ?_
      (conv => whnf)
      refine splitB_intro (fun h => ?_) (fun h => ?_)
      · (conv => whnf)
        rw [IntWalk.i64_in _ (by omega)]
        refine ih (j + 1) hd' (by omega) ?_
        rw [← hq, whileL, if_pos h]; omega
      · (conv => whnf)
        rw [whileL, h] at hq
        exact ⟨by rw [← hq]; rfl, rfl⟩
  exact key _ i rfl hi rfl

theorem whileL_all (p : UInt8 → Bool) : ∀ l : List UInt8, decide (whileL p l = l.length) = l.all p
  | [] => rfl
  | c :: r => by
    rw [whileL, List.all_cons]
    cases h : p c with
    | false => simp
    | true => rw [if_pos rfl, ← whileL_all p r]; simp

theorem Name_spec (s : ByteArray) (hs : (s.size : Int) ≤ 9223372036854775807) : pureF Try.prog 89 [.p (.str s)] (.p (.bool (nameB s))) := by
  refine pureF_of f89_ok fun H => ?_
  cases hd : s.data.toList with
  | nil =>
    have he : s.toList = (⟨#[]⟩ : ByteArray).toList := by rw [ba_ext, hd]
    (conv => whnf)
    refine splitB_t (by rw [he]; exact beq_self_eq_true _) ?_
    (conv => whnf)
    refine splitB_t rfl ?_
    exact ⟨by rw [nameB, hd], rfl⟩
  | cons c r =>
    have he : (s.toList == (⟨#[]⟩ : ByteArray).toList) = false := by rw [ba_toList, hd, ba_toList]; rfl
    have hl : s.size = r.length + 1 := by rw [ba_size, hd]; rfl
    have hq : nameB s = (letterB c.toNat && r.all fun c => letterB c.toNat || digitB c.toNat) := by rw [nameB, hd]
    (conv => whnf)
    refine splitB_f he ?_
    (conv => whnf)
    refine ⟨c, ⟨by omega, by rw [hd]; rfl⟩, ?_⟩
    (conv => whnf)
    refine CallVC.pureF (letter_spec _) rfl ?_
    (conv => whnf)
    refine splitB_intro (fun h => ?_) (fun h => ?_)
    · have h : letterB ↑c.toNat = false := by simpa using h
      exact ⟨by rw [hq, h, Bool.false_and], rfl⟩
    · have h : letterB ↑c.toNat = true := by simpa using h
      (conv => whnf)
      refine CallVC.pure (e := .int .i64 (1 + whileL (fun c => letterB c.toNat || digitB c.toNat) (s.data.toList.drop 1) : Nat)) (while_spec s hs 106 (by kernel_rfl) (fun c => letterB c.toNat || digitB c.toNat) (fun c => nameFn_spec _) H.length [.p (.int .i64 0)] _ ?_ 1 (by omega)) ?_
      · simp [flat, Ob.close, AV.closes, AV.close]
      · refine ⟨congrArg (fun b => AV.p (PV.bool b)) ?_, rfl⟩
        rw [hq, h, Bool.true_and, ← whileL_all, hd, List.drop_succ_cons, List.drop_zero, Bool.eq_iff_iff]
        simp
        omega

end Go.Proofs.Ythmlninecfjjgaa.AD

namespace Go.Proofs.Ythmlninecfjjgaa.AD
open Go.Proofs
set_option linter.unusedVariables false
set_option linter.unusedSimpArgs false
set_option maxRecDepth 100000

theorem ixs_ok (s : ByteArray) (c : UInt8) : XOk Try.prog 122 [.str s, .int .u8 c.toNat] (.int .i64 (Lib.indexByte s.data.toList c)) := by
  refine ⟨fun M w xs hl hx => ⟨.int .i64 (Lib.indexByte s.data.toList c), ?_, .int _ _⟩⟩
  have hl2 : xs.size = 2 := hl
  have h0 := hx 0 xs[0] _ (Array.getElem?_eq_getElem (by omega)) rfl
  have h1 := hx 1 xs[1] _ (Array.getElem?_eq_getElem (by omega)) rfl
  have he : xs = #[.string s, .int .u8 c.toNat] := by
    have e0 : xs[0] = .string s := by generalize xs[0] = x at h0; cases h0; rfl
    have e1 : xs[1] = .int .u8 c.toNat := by generalize xs[1] = x at h1; cases h1; rfl
    apply Array.ext
    · exact hl2
    · intro i h1 h2
      match i, h1, h2 with
      | 0, _, _ => exact e0
      | 1, _, _ => exact e1
  subst he
  rw [run_callFunc_extern Try.func122 (by kernel_rfl) (by kernel_rfl) (by kernel_rfl) (e := Extern.BytealgIndexByte.indexByte) (by kernel_rfl), Lib.run_indexByteString]
  simp [Result.andThen]

theorem IndexByte_spec (s : ByteArray) (c : UInt8) : pureF Try.prog 118 [.p (.str s), .p (.int .u8 c.toNat)] (.p (.int .i64 (Lib.indexByte s.data.toList c))) := by
  refine pureF_of f118_ok fun H => ?_
  (conv => whnf)
  exact ⟨_, ixs_ok s c, rfl, rfl⟩

theorem Index_spec (s : ByteArray) (c : UInt8) : pureF Try.prog 115 [.p (.str s), .p (.str ⟨#[c]⟩)] (.p (.int .i64 (Lib.indexByte s.data.toList c))) := by
  refine pureF_of f115_ok fun H => ?_
  (conv => whnf)
  refine splitB_f rfl ?_
  (conv => whnf)
  refine splitB_eq (fun h => ?_) (fun h => ?_)
  · have h2 : s.data.toList = [c] := by rw [← ba_toList, ← h, ba_toList]
    exact ⟨by rw [h2]; simp [Lib.indexByte], rfl⟩
  (conv => whnf)
  refine splitB_t rfl ?_
  (conv => whnf)
  refine ⟨c, ⟨by omega, rfl⟩, ?_⟩
  (conv => whnf)
  refine CallVC.pureF (IndexByte_spec s c) rfl ?_
  exact ⟨rfl, rfl⟩

/-- A text cut where a byte first stands. -/
def cutAt (s : ByteArray) (c : UInt8) : ByteArray × ByteArray × Bool :=
  if 0 ≤ Lib.indexByte s.data.toList c then (s.extract 0 (Lib.indexByte s.data.toList c).toNat, s.extract ((Lib.indexByte s.data.toList c) + 1).toNat s.size, true) else (s, ⟨#[]⟩, false)

theorem indexByte_range (c : UInt8) : ∀ l : List UInt8, -1 ≤ Lib.indexByte l c ∧ Lib.indexByte l c < l.length
  | [] => by simp [Lib.indexByte]
  | b :: l => by
    have := indexByte_range c l
    simp only [Lib.indexByte]
    split
    · simp
    · split
      · simp; omega
      · simp at *; omega

theorem liteCut_spec (s : ByteArray) (hs : (s.size : Int) ≤ 9223372036854775807) (c : UInt8) : pureF Try.prog 108 [.p (.str s), .p (.str ⟨#[c]⟩)] (.p (.tup [.str (cutAt s c).1, .str (cutAt s c).2.1, .bool (cutAt s c).2.2])) := by
  have hr := indexByte_range c s.data.toList
  rw [← ba_size] at hr
  refine pureF_of f108_ok fun H => ?_
  (conv => whnf)
  refine CallVC.pureF (Index_spec s c) rfl ?_
  generalize hj : Lib.indexByte s.data.toList c = j at hr
  have hc : cutAt s c = if 0 ≤ j then (s.extract 0 j.toNat, s.extract (j + 1).toNat s.size, true) else (s, ⟨#[]⟩, false) := by rw [cutAt, hj]
  (conv => whnf)
  refine splitB_dec (fun h => ?_) (fun h => ?_)
  · rw [if_pos (show 0 ≤ j by omega)] at hc
    (conv => whnf)
    refine ⟨⟨by omega, by omega⟩, ?_⟩
    (conv => whnf)
    rw [show ((({ data := #[c] } : ByteArray).size : Nat) : Int) = 1 from rfl, IntWalk.i64_in (j + 1) (by omega)]
    refine ⟨⟨by omega, by omega⟩, ?_⟩
    exact ⟨by rw [hc], rfl⟩
  · rw [if_neg (show ¬ 0 ≤ j by omega)] at hc
    exact ⟨by rw [hc], rfl⟩

theorem Cut_spec (s : ByteArray) (hs : (s.size : Int) ≤ 9223372036854775807) (c : UInt8) : pureF Try.prog 91 [.p (.str s), .p (.str ⟨#[c]⟩)] (.p (.tup [.str (cutAt s c).1, .str (cutAt s c).2.1, .bool (cutAt s c).2.2])) := by
  refine pureF_of f91_ok fun H => ?_
  (conv => whnf)
  refine CallVC.pureF (liteCut_spec s hs c) rfl ?_
  exact ⟨rfl, rfl⟩

/-! ### a number with a dot -/
def decB (s : ByteArray) : Bool := (cutAt s 46).2.2 && (digitsB (cutAt s 46).1 && digitsB (cutAt s 46).2.1)

theorem indexByte_at (c : UInt8) (l : List UInt8) : ∀ (r : List UInt8) (i : Nat), l.drop i = r → (∀ k, k < i → l[k]? ≠ some c) → Lib.indexByte l c = (if Lib.indexByte r c = -1 then -1 else Lib.indexByte r c + i) := by
  intro r i hd hn
  have main : ∀ (p r : List UInt8), (∀ k, k < p.length → p[k]? ≠ some c) → Lib.indexByte (p ++ r) c = (if Lib.indexByte r c = -1 then -1 else Lib.indexByte r c + p.length) := by
    intro p
    induction p with
    | nil => intro r _; simp
    | cons b p ih =>
      intro r h
      have hb : (b == c) = false := by
        have := h 0 (by simp)
        simpa using this
      have := ih r fun k hk => by have := h (k + 1) (by simp; omega); simpa using this
      have hrange := indexByte_range c r
      simp only [List.cons_append, Lib.indexByte, hb, this]
      by_cases h2 : Lib.indexByte r c = -1
      · simp [h2]
      · rw [if_neg h2]
        simp only [beq_iff_eq, Bool.false_eq_true, if_false, h2, List.length_cons]
        rw [if_neg (by omega)]
        omega
  by_cases hl : i ≤ l.length
  · have := main (l.take i) (l.drop i) fun k hk => by
      rw [List.getElem?_take, if_pos (by simp at hk; omega)]; exact hn k (by simp at hk; omega)
    rw [List.take_append_drop, hd] at this
    rw [this]
    simp [Nat.min_eq_left hl]
  · have hr : r = [] := by rw [← hd]; exact List.drop_eq_nil_iff.2 (by omega)
    have := main l [] fun k hk => hn k (by omega)
    rw [List.append_nil] at this
    rw [this, hr]; rfl

theorem Dec_spec (s : ByteArray) (hs : (s.size : Int) ≤ 9223372036854775807) : pureF Try.prog 101 [.p (.str s)] (.p (.bool (decB s))) := by
  refine pureF_of f101_ok fun H => ?_
  (conv => whnf)
  intro R hR
  have key : ∀ (rest : List UInt8) (i : Nat), s.data.toList.drop i = rest → (∀ k, k < i → s.data.toList[k]? ≠ some 46) → R [(0, .p (.str s)), (3, .p (.int .i64 i))] H [] := by
    intro rest
    induction rest with
    | nil =>
      intro i hd hn
      have hl := sz_le hd
      have hx := indexByte_at 46 _ _ _ hd hn
      refine hR _ _ _ ?_
      (conv => whnf)
      refine splitB_f (decide_eq_false (by omega)) ?_
      refine ⟨?_, rfl⟩
      have : Lib.indexByte s.data.toList 46 = -1 := by rw [hx]; rfl
      rw [decB, cutAt, this]
      rfl
    | cons c r ih =>
      intro i hd hn
      obtain ⟨hg, hd', _⟩ := drop_cons hd
      have hl := sz_lt hd
      refine hR _ _ _ ?_
      (conv => whnf)
      refine splitB_t (decide_eq_true (by omega)) ?_
      (conv => whnf)
      refine ⟨c, ⟨by omega, hg⟩, ?_⟩
      (conv => whnf)
      refine splitB_eq (fun h => ?_) (fun h => ?_)
      · have hc : c = 46 := by
          apply UInt8.toNat_inj.1
          have : (c.toNat : Int) = 46 := h
          have h46 : (46 : UInt8).toNat = 46 := rfl
          omega
        subst hc
        have hx : Lib.indexByte s.data.toList 46 = i := by
          rw [indexByte_at 46 _ _ _ hd hn]
          have : Lib.indexByte ((46 : UInt8) :: r) 46 = 0 := by simp [Lib.indexByte]
          rw [this]; simp
        have hcut : cutAt s 46 = (s.extract 0 i, s.extract (i + 1) s.size, true) := by
          rw [cutAt, hx, if_pos (by omega)]
          simp
        have hsz : ∀ a b, ((s.extract a b).size : Int) ≤ 9223372036854775807 := fun a b => by
          have : (s.extract a b).size ≤ s.size := by simp [ByteArray.size_extract]; omega
          omega
        have hdec : decB s = (digitsB (s.extract 0 i) && digitsB (s.extract (i + 1) s.size)) := by rw [decB, hcut]; rfl
        (conv => whnf)
        refine ⟨⟨by omega, by omega⟩, ?_⟩
        (conv => whnf)
        refine CallVC.pureF (refDigits_spec _ (hsz _ _)) rfl ?_
        (conv => whnf)
        refine splitB_intro (fun h2 => ?_) (fun h2 => ?_)
        · have h2 : digitsB (s.extract 0 i) = true := h2
          (conv => whnf)
          rw [IntWalk.i64_in _ (by omega)]
          refine ⟨⟨by omega, by omega⟩, ?_⟩
          (conv => whnf)
          refine CallVC.pureF (refDigits_spec _ (hsz _ _)) rfl ?_
          exact ⟨by rw [hdec, h2, Bool.true_and]; rfl, rfl⟩
        · have h2 : digitsB (s.extract 0 i) = false := h2
          exact ⟨by rw [hdec, h2, Bool.false_and], rfl⟩
      · (conv => whnf)
        rw [IntWalk.i64_in _ (by omega)]
        refine ih (i + 1) hd' fun k hk => ?_
        rcases Nat.lt_or_ge k i with h2 | h2
        · exact hn k h2
        · have : k = i := by omega
          subst this
          rw [hg]
          intro e
          cases e
          exact h rfl
  exact key _ 0 rfl fun k hk => absurd hk (by omega)

end Go.Proofs.Ythmlninecfjjgaa.AD

namespace Go.Proofs.Ythmlninecfjjgaa.AD
open Go.Proofs
set_option linter.unusedVariables false
set_option linter.unusedSimpArgs false
set_option maxRecDepth 100000

def oneT (op a : Int) : Int :=
  if op = 3 ∧ a = 1 then 1 else if op = 6 ∧ a = 1 then 2 else if op = 8 ∧ a = 1 then 3 else if op = 9 ∧ (a = 2 ∨ a = 3) then a else if op = 25 ∧ a = 4 then 4 else 0
def twoT (op a b : Int) : Int :=
  if op = 4 then (if a = 1 ∧ b = 1 then 1 else 0)
  else if 10 ≤ op ∧ op ≤ 13 then (if a = 2 ∧ b = 2 then 2 else if (a = 2 ∨ a = 3) ∧ (b = 2 ∨ b = 3) then 3 else 0)
  else if op = 14 then (if a = 2 ∧ b = 2 then 2 else 0)
  else if op = 15 then (if (a = 2 ∨ a = 3) ∧ b = 2 then a else 0)
  else if 16 ≤ op ∧ op ≤ 21 then (if (a = 1 ∧ b = 1) ∨ ((a = 2 ∨ a = 3) ∧ (b = 2 ∨ b = 3)) then 4 else 0)
  else if op = 22 then (if a = 1 ∧ b = 1 then 4 else 0)
  else if op = 23 ∨ op = 24 then (if a = 4 ∧ b = 4 then 4 else 0)
  else 0

theorem number_spec (n : Int) : pureF Try.prog 114 [.p (.int .u8 n)] (.p (.bool (decide (n = 2 ∨ n = 3)))) := by
  refine pureF_of f114_ok fun H => ?_
  repeat' ((conv => whnf); (first | refine splitB_t rfl ?_ | refine splitB_f rfl ?_ | refine splitB_dec (fun h => ?_) (fun h => ?_) | refine splitB_eq (fun h => ?_) (fun h => ?_) | refine splitB_ne (fun h => ?_) (fun h => ?_) | refine splitB_intro (fun h => ?_) (fun h => ?_)))
  all_goals exact ⟨congrArg (fun b => AV.p (PV.bool b)) (by rw [Bool.eq_iff_iff]; simp <;> omega), rfl⟩

theorem arity1 {op : Int} (h : arityI op = 1) : op = 3 ∨ op = 6 ∨ op = 8 ∨ op = 9 ∨ op = 25 := by
  simp only [arityI] at h
  split at h
  · omega
  · split at h
    · assumption
    · split at h <;> omega
theorem arity2 {op : Int} (h : arityI op = 2) : op = 4 ∨ op = 10 ∨ op = 11 ∨ op = 12 ∨ op = 13 ∨ op = 14 ∨ op = 15 ∨ op = 16 ∨ op = 17 ∨ op = 18 ∨ op = 19 ∨ op = 20 ∨ op = 21 ∨ op = 22 ∨ op = 23 ∨ op = 24 := by
  simp only [arityI] at h
  split at h
  · omega
  · split at h
    · omega
    · split at h <;> omega

theorem one_spec (op a : Int) (h : arityI op = 1) : pureF Try.prog 102 [.p (.int .u8 op), .p (.int .u8 a)] (.p (.int .u8 (oneT op a))) := by
  refine pureF_of f102_ok fun H => ?_
  rcases arity1 h with rfl | rfl | rfl | rfl | rfl
  all_goals
    repeat' ((conv => whnf); first | refine CallVC.pureF (number_spec _) rfl ?_ | (first | refine splitB_t rfl ?_ | refine splitB_f rfl ?_ | refine splitB_dec (fun h => ?_) (fun h => ?_) | refine splitB_eq (fun h => ?_) (fun h => ?_) | refine splitB_ne (fun h => ?_) (fun h => ?_) | refine splitB_intro (fun h => ?_) (fun h => ?_)))
  all_goals exact ⟨congrArg (fun b => AV.p (PV.int .u8 b)) (by simp [oneT] <;> (repeat' split) <;> omega), rfl⟩

theorem two_spec (op a b : Int) (h : arityI op = 2) : pureF Try.prog 103 [.p (.int .u8 op), .p (.int .u8 a), .p (.int .u8 b)] (.p (.int .u8 (twoT op a b))) := by
  refine pureF_of f103_ok fun H => ?_
  rcases arity2 h with rfl | rfl | rfl | rfl | rfl | rfl | rfl | rfl | rfl | rfl | rfl | rfl | rfl | rfl | rfl | rfl
  all_goals
    repeat' ((conv => whnf); first | refine CallVC.pureF (number_spec _) rfl ?_ | (first | refine splitB_t rfl ?_ | refine splitB_f rfl ?_ | refine splitB_dec (fun h => ?_) (fun h => ?_) | refine splitB_eq (fun h => ?_) (fun h => ?_) | refine splitB_ne (fun h => ?_) (fun h => ?_) | refine splitB_intro (fun h => ?_) (fun h => ?_)))
  all_goals exact ⟨congrArg (fun b => AV.p (PV.int .u8 b)) (by simp [twoT] <;> (repeat' split) <;> omega), rfl⟩

def rowOf (op : Int) : List PV := [.int .u8 (oneT op 0), .int .u8 (oneT op 1), .int .u8 (oneT op 2), .int .u8 (oneT op 3), .int .u8 (oneT op 4)]
def rowTwo (op a : Int) : List PV := [.int .u8 (twoT op a 0), .int .u8 (twoT op a 1), .int .u8 (twoT op a 2), .int .u8 (twoT op a 3), .int .u8 (twoT op a 4)]
def gridOf (op : Int) : List PV := rowTwo op 0 ++ rowTwo op 1 ++ rowTwo op 2 ++ rowTwo op 3 ++ rowTwo op 4

theorem single_spec (op : Int) (h : arityI op = 1) : pureF Try.prog 110 [.p (.int .u8 op)] (.p (.agg (rowOf op))) := by
  refine pureF_of f110_ok fun H => ?_
  rcases arity1 h with rfl | rfl | rfl | rfl | rfl
  all_goals
    repeat' ((conv => whnf); first | exact ⟨rfl, rfl⟩ | refine splitB_t rfl ?_ | refine splitB_f rfl ?_ | refine ⟨⟨by omega, by omega⟩, ?_⟩)

theorem pair111 : pureF Try.prog 116 [.p (.int .u8 1), .p (.int .u8 1), .p (.int .u8 1)] (.p (.agg (gridOf 4))) := by
  refine pureF_of f116_ok fun H => ?_
  repeat' ((conv => whnf); first | exact ⟨rfl, rfl⟩ | refine ⟨⟨by omega, by omega⟩, ?_⟩)
theorem pair222 : pureF Try.prog 116 [.p (.int .u8 2), .p (.int .u8 2), .p (.int .u8 2)] (.p (.agg (gridOf 14))) := by
  refine pureF_of f116_ok fun H => ?_
  repeat' ((conv => whnf); first | exact ⟨rfl, rfl⟩ | refine ⟨⟨by omega, by omega⟩, ?_⟩)
theorem pair114 : pureF Try.prog 116 [.p (.int .u8 1), .p (.int .u8 1), .p (.int .u8 4)] (.p (.agg (gridOf 22))) := by
  refine pureF_of f116_ok fun H => ?_
  repeat' ((conv => whnf); first | exact ⟨rfl, rfl⟩ | refine ⟨⟨by omega, by omega⟩, ?_⟩)
theorem pair444 : pureF Try.prog 116 [.p (.int .u8 4), .p (.int .u8 4), .p (.int .u8 4)] (.p (.agg (gridOf 23))) := by
  refine pureF_of f116_ok fun H => ?_
  repeat' ((conv => whnf); first | exact ⟨rfl, rfl⟩ | refine ⟨⟨by omega, by omega⟩, ?_⟩)
theorem numbers_spec : pureF Try.prog 117 [] (.p (.agg (gridOf 10))) := by
  refine pureF_of f117_ok fun H => ?_
  repeat' ((conv => whnf); first | exact ⟨rfl, rfl⟩ | refine ⟨⟨by omega, by omega⟩, ?_⟩)

theorem of_spec (op : Int) (h : arityI op = 2) : pureF Try.prog 111 [.p (.int .u8 op)] (.p (.agg (gridOf op))) := by
  refine pureF_of f111_ok fun H => ?_
  rcases arity2 h with rfl | rfl | rfl | rfl | rfl | rfl | rfl | rfl | rfl | rfl | rfl | rfl | rfl | rfl | rfl | rfl
  all_goals
    repeat' ((conv => whnf); first | exact ⟨rfl, rfl⟩ | refine splitB_t rfl ?_ | refine splitB_f rfl ?_ | refine ⟨⟨by omega, by omega⟩, ?_⟩ | refine CallVC.pureF pair111 rfl ?_ | refine CallVC.pureF pair222 rfl ?_ | refine CallVC.pureF pair114 rfl ?_ | refine CallVC.pureF pair444 rfl ?_ | refine CallVC.pureF numbers_spec rfl ?_)
  all_goals
    (conv => whnf)
    intro R hR
    refine hR _ _ _ ?_
    repeat' ((conv => whnf); first | refine splitB_t rfl ?_ | refine splitB_f rfl ?_ | refine ⟨⟨by decide, by decide⟩, ?_⟩ | refine ⟨by decide, ?_⟩ | refine ⟨_, rfl, ?_⟩ | exact ⟨rfl, rfl⟩ | (intro R2 hR2; refine hR2 _ _ _ ?_) | refine hR2 _ _ _ ?_ | refine hR _ _ _ ?_)

end Go.Proofs.Ythmlninecfjjgaa.AD

namespace Go.Proofs.Ythmlninecfjjgaa.AD
open Go.Proofs
set_option linter.unusedVariables false
set_option linter.unusedSimpArgs false
set_option maxRecDepth 100000

def leafT (o : Int) : Int := if o = 5 then 2 else if o = 7 then 3 else if o = 26 ∨ o = 27 then 4 else 1
def combT (o : Int) : List Int → Int
  | [] => leafT o
  | [a] => oneT o a
  | a :: b :: _ => twoT o a b
mutual
def typeT : Ex → Int
  | .mk o _ xs => combT o (typesT xs)
def typesT : List Ex → List Int
  | [] => []
  | a :: r => typeT a :: typesT r
end

/-- Each kind with as many parts as it has. -/
inductive Shaped : Ex → Prop
  | mk (o : Int) (t : ByteArray) (xs : List Ex) : arityI o = xs.length → (∀ a, a ∈ xs → Shaped a) → Shaped (.mk o t xs)

theorem arity0 {op : Int} (h : arityI op = 0) : op = 1 ∨ op = 2 ∨ op = 5 ∨ op = 7 ∨ op = 26 ∨ op = 27 := by
  simp only [arityI] at h
  split at h
  · assumption
  · split at h
    · omega
    · split at h <;> omega
theorem arity_le (op : Int) : arityI op ≤ 2 := by
  simp only [arityI]
  (repeat' split) <;> omega

theorem Shaped.args {o : Int} {t : ByteArray} {xs : List Ex} (h : Shaped (.mk o t xs)) : (arityI o = 0 ∧ xs = []) ∨ (arityI o = 1 ∧ ∃ a, xs = [a] ∧ Shaped a) ∨ (arityI o = 2 ∧ ∃ a b, xs = [a, b] ∧ Shaped a ∧ Shaped b) := by
  cases h with
  | mk _ _ _ h1 h2 =>
    have := arity_le o
    match xs, h1, h2 with
    | [], h1, _ => exact .inl ⟨h1, rfl⟩
    | [a], h1, h2 => exact .inr (.inl ⟨h1, a, rfl, h2 a (by simp)⟩)
    | [a, b], h1, h2 => exact .inr (.inr ⟨h1, a, b, rfl, h2 a (by simp), h2 b (by simp)⟩)
    | _ :: _ :: _ :: _, h1, _ => simp at h1; omega

theorem oneT_range {o a : Int} (h : 0 ≤ a ∧ a ≤ 4) : 0 ≤ oneT o a ∧ oneT o a ≤ 4 := by simp only [oneT]; (repeat' split) <;> omega
theorem twoT_range {o a b : Int} (h : 0 ≤ a ∧ a ≤ 4) : 0 ≤ twoT o a b ∧ twoT o a b ≤ 4 := by simp only [twoT]; (repeat' split) <;> omega

theorem typeT_range (e : Ex) : Shaped e → 0 ≤ typeT e ∧ typeT e ≤ 4 := by
  induction e using Ex.ind with
  | h o t xs ih =>
    intro h
    rcases h.args with ⟨_, rfl⟩ | ⟨_, a, rfl, ha⟩ | ⟨_, a, b, rfl, ha, hb⟩
    · simp only [typeT, typesT, combT, leafT]; (repeat' split) <;> omega
    · simp only [typeT, typesT, combT]; exact oneT_range (ih a (by simp) ha)
    · simp only [typeT, typesT, combT]; exact twoT_range (ih a (by simp) ha)

theorem Type_spec (e : Ex) : Shaped e → pureF Try.prog 84 [.p (enc e)] (.p (.int .u8 (typeT e))) := by
  induction e using Ex.ind with
  | h o t xs ih =>
    intro h
    refine pureF_of f84_ok fun H => ?_
    rcases h.args with ⟨h0, rfl⟩ | ⟨h0, a, rfl, ha⟩ | ⟨h0, a, b, rfl, ha, hb⟩
    · rcases arity0 h0 with rfl | rfl | rfl | rfl | rfl | rfl
      all_goals
        repeat' ((conv => whnf); first | refine splitB_t rfl ?_ | refine splitB_f rfl ?_ | exact ⟨rfl, rfl⟩)
    · have iha := ih a (by simp) ha
      have hone := one_spec o (typeT a) h0
      obtain ⟨o', t', xs'⟩ := a
      rcases arity1 h0 with rfl | rfl | rfl | rfl | rfl
      all_goals
        repeat' ((conv => whnf); first | refine splitB_t rfl ?_ | refine splitB_f rfl ?_ | refine CallVC.pureF iha rfl ?_ | refine CallVC.pureF hone rfl ?_ | exact ⟨rfl, rfl⟩ | refine ⟨rfl, enc (.mk o' t' xs'), ⟨by decide, rfl⟩, ?_⟩)
    · have iha := ih a (by simp) ha
      have ihb := ih b (by simp) hb
      have htwo := two_spec o (typeT a) (typeT b) h0
      obtain ⟨o', t', xs'⟩ := a
      obtain ⟨o2, t2, xs2⟩ := b
      rcases arity2 h0 with rfl | rfl | rfl | rfl | rfl | rfl | rfl | rfl | rfl | rfl | rfl | rfl | rfl | rfl | rfl | rfl
      all_goals
        repeat' ((conv => whnf); first | refine splitB_t rfl ?_ | refine splitB_f rfl ?_ | refine CallVC.pureF iha rfl ?_ | refine CallD.pureF ihb rfl ?_ | refine CallD.pureF htwo rfl ?_ | exact ⟨rfl, rfl⟩ | refine ⟨rfl, enc (.mk o' t' xs'), ⟨by decide, rfl⟩, ?_⟩ | refine ⟨rfl, enc (.mk o2 t2 xs2), ⟨by decide, rfl⟩, ?_⟩)

theorem row_get {op i : Int} (h : 0 ≤ i ∧ i ≤ 4) : (rowOf op)[i.toNat * 1]? = some (.int .u8 (oneT op i)) := by
  have : i = 0 ∨ i = 1 ∨ i = 2 ∨ i = 3 ∨ i = 4 := by omega
  rcases this with rfl | rfl | rfl | rfl | rfl <;> rfl
theorem grid_get {op i : Int} (h : 0 ≤ i ∧ i ≤ 4) : ((gridOf op).drop (i.toNat * 5)).take 5 = rowTwo op i := by
  have : i = 0 ∨ i = 1 ∨ i = 2 ∨ i = 3 ∨ i = 4 := by omega
  rcases this with rfl | rfl | rfl | rfl | rfl <;> rfl
theorem row2_get {op a i : Int} (h : 0 ≤ i ∧ i ≤ 4) : (rowTwo op a)[i.toNat * 1]? = some (.int .u8 (twoT op a i)) := by
  have : i = 0 ∨ i = 1 ∨ i = 2 ∨ i = 3 ∨ i = 4 := by omega
  rcases this with rfl | rfl | rfl | rfl | rfl <;> rfl

theorem typed_spec (e : Ex) : Shaped e → pureF Try.prog 94 [.p (enc e)] (.p (.int .u8 (typeT e))) := by
  induction e using Ex.ind with
  | h o t xs ih =>
    intro h
    refine pureF_of f94_ok fun H => ?_
    rcases h.args with ⟨h0, rfl⟩ | ⟨h0, a, rfl, ha⟩ | ⟨h0, a, b, rfl, ha, hb⟩
    · rcases arity0 h0 with rfl | rfl | rfl | rfl | rfl | rfl
      all_goals
        repeat' ((conv => whnf); first | refine splitB_t rfl ?_ | refine splitB_f rfl ?_ | exact ⟨rfl, rfl⟩)
    · have iha := ih a (by simp) ha
      have hra := typeT_range a ha
      have hs := single_spec o h0
      obtain ⟨o', t', xs'⟩ := a
      (conv => whnf)
      refine splitB_t rfl ?_
      (conv => whnf)
      refine CallD.pureF hs rfl ?_
      (conv => whnf)
      refine ⟨rfl, enc (.mk o' t' xs'), ⟨by decide, rfl⟩, ?_⟩
      (conv => whnf)
      refine CallD.pureF iha rfl ?_
      (conv => whnf)
      refine ⟨⟨by omega, by omega⟩, _, row_get hra, ?_⟩
      exact ⟨rfl, rfl⟩
    · have iha := ih a (by simp) ha
      have ihb := ih b (by simp) hb
      have hra := typeT_range a ha
      have hrb := typeT_range b hb
      have hs := of_spec o h0
      obtain ⟨o', t', xs'⟩ := a
      obtain ⟨o2, t2, xs2⟩ := b
      (conv => whnf)
      refine splitB_f rfl ?_
      (conv => whnf)
      refine splitB_t rfl ?_
      (conv => whnf)
      refine CallD.pureF hs rfl ?_
      (conv => whnf)
      refine ⟨rfl, enc (.mk o' t' xs'), ⟨by decide, rfl⟩, ?_⟩
      (conv => whnf)
      refine CallD.pureF iha rfl ?_
      (conv => whnf)
      refine ⟨⟨by omega, by omega⟩, by simp only [gridOf, rowTwo, List.length_append, List.length_cons, List.length_nil]; omega, ?_⟩
      rw [grid_get hra]
      (conv => whnf)
      refine ⟨rfl, enc (.mk o2 t2 xs2), ⟨by decide, rfl⟩, ?_⟩
      (conv => whnf)
      refine CallD.pureF ihb rfl ?_
      (conv => whnf)
      refine ⟨⟨by omega, by omega⟩, _, row2_get hrb, ?_⟩
      exact ⟨rfl, rfl⟩

end Go.Proofs.Ythmlninecfjjgaa.AD

namespace Go.Proofs.Ythmlninecfjjgaa.AD
open Go.Proofs
set_option linter.unusedVariables false
set_option linter.unusedSimpArgs false
set_option maxRecDepth 100000

def eqS (s t : ByteArray) : Bool := s.toList == t.toList
def textOk (o : Int) (t : ByteArray) : Bool :=
  if o = 1 then true
  else if o = 2 then nameB t && (!eqS t ⟨#[116, 114, 117, 101]⟩ && !eqS t ⟨#[102, 97, 108, 115, 101]⟩)
  else if o = 5 then digitsB t
  else if o = 7 then decB t
  else eqS t ⟨#[]⟩
mutual
def mayE : Ex → Bool
  | .mk o t xs => decide (arityI o = xs.length) && (textOk o t && mayL xs)
def mayL : List Ex → Bool
  | [] => true
  | a :: r => mayE a && mayL r
end
theorem mayL_all : ∀ xs, mayL xs = xs.all mayE
  | [] => rfl
  | a :: r => by rw [mayL, mayL_all r]; rfl

theorem shaped_of (e : Ex) : mayE e = true → Shaped e := by
  induction e using Ex.ind with
  | h o t xs ih =>
    intro h
    simp only [mayE, Bool.and_eq_true, decide_eq_true_eq, mayL_all, List.all_eq_true] at h
    exact .mk o t xs h.1 fun a ha => ih a ha (h.2.2 a ha)

/-! ### the program's -/
/-- The first of which something holds. -/
def idxF {α : Type} (p : α → Bool) : List α → Int
  | [] => -1
  | a :: r => if p a then 0 else if idxF p r = -1 then -1 else idxF p r + 1
theorem idxF_ge {α : Type} (p : α → Bool) : ∀ xs : List α, -1 ≤ idxF p xs
  | [] => by simp [idxF]
  | a :: r => by have := idxF_ge p r; simp only [idxF]; (repeat' split) <;> omega
theorem idxF_any {α : Type} (p : α → Bool) : ∀ xs : List α, decide (idxF p xs ≥ 0) = xs.any p
  | [] => by simp [idxF]
  | a :: r => by
    have h1 := idxF_any p r
    have h2 := idxF_ge p r
    rw [List.any_cons, ← h1]
    simp only [idxF]
    by_cases hp : p a = true
    · simp [hp]
    · have hp : p a = false := by simpa using hp
      simp only [hp, Bool.false_or, Bool.false_eq_true, if_false]
      by_cases h3 : idxF p r = -1
      · rw [if_pos h3, h3]
      · rw [if_neg h3, decide_eq_decide]; omega

theorem IndexFuncE_spec (xs : List Ex) (hx : (xs.length : Int) ≤ 9223372036854775807) (p : Ex → Bool) (f : Nat) (hf : enters Try.prog f = true) (hp : ∀ a, a ∈ xs → pureF Try.prog f [.p (enc a)] (.p (.bool (p a)))) :
    pureF Try.prog 109 [.p (.list 3 (encs xs)), .p (.fn (.func f))] (.p (.int .i64 (idxF p xs))) := by
  refine pureF_of f109_ok fun H => ?_
  (conv => whnf)
  intro R hR
  have he := encs_len xs
  have key : ∀ (rest : List Ex) (i : Nat), xs.drop i = rest → idxF p xs = (if idxF p rest = -1 then -1 else idxF p rest + i) → R [(0, .p (.list 3 (encs xs))), (1, .p (.fn (.func f))), (7, .p (.int .i64 (encs xs).length)), (8, .p (.int .i64 i))] H [] := by
    intro rest
    induction rest with
    | nil =>
      intro i hd hq
      have hl := drop_nil hd
      refine hR _ _ _ ?_
      (conv => whnf)
      refine splitB_f (decide_eq_false (by omega)) ?_
      exact ⟨by rw [hq]; rfl, rfl⟩
    | cons a r ih =>
      intro i hd hq
      obtain ⟨hg, hd', hi⟩ := drop_cons hd
      have hpa := hp a (List.mem_of_getElem? hg)
      refine hR _ _ _ ?_
      (conv => whnf)
      refine splitB_t (decide_eq_true (by omega)) ?_
      (conv => whnf)
      obtain ⟨o', t', xs'⟩ := a
      refine ⟨rfl, enc (.mk o' t' xs'), ⟨by omega, encs_get hg⟩, ?_⟩
      (conv => whnf)
      refine ⟨hf, ?_⟩
      refine CallVC.pureF hpa rfl ?_
      (conv => whnf)
      refine splitB_intro (fun h => ?_) (fun h => ?_)
      · exact ⟨by rw [hq]; simp [idxF, h], rfl⟩
      · (conv => whnf)
        rw [IntWalk.i64_in _ (by omega)]
        refine ih (i + 1) hd' ?_
        rw [hq]
        simp only [idxF, h, Bool.false_eq_true, if_false]
        have := idxF_ge p r
        by_cases h3 : idxF p r = -1
        · rw [if_pos h3, if_pos rfl, if_pos h3]
        · rw [if_neg h3, if_neg (by omega), if_neg h3]; push_cast; omega
  refine key xs 0 rfl ?_
  by_cases h3 : idxF p xs = -1
  · rw [if_pos h3]; exact h3
  · rw [if_neg h3]; simp

theorem ContainsFuncE_spec (xs : List Ex) (hx : (xs.length : Int) ≤ 9223372036854775807) (p : Ex → Bool) (f : Nat) (hf : enters Try.prog f = true) (hp : ∀ a, a ∈ xs → pureF Try.prog f [.p (enc a)] (.p (.bool (p a)))) :
    pureF Try.prog 92 [.p (.list 3 (encs xs)), .p (.fn (.func f))] (.p (.bool (xs.any p))) := by
  refine pureF_of f92_ok fun H => ?_
  (conv => whnf)
  refine CallVC.pureF (IndexFuncE_spec xs hx p f hf hp) rfl ?_
  exact ⟨by rw [← idxF_any], rfl⟩

theorem mayFn_spec (a : Ex) (h : pureF Try.prog 59 [.p (enc a)] (.p (.bool (mayE a)))) : pureF Try.prog 93 [.p (enc a)] (.p (.bool (!mayE a))) := by
  refine pureF_of f93_ok fun H => ?_
  obtain ⟨o, t, xs⟩ := a
  (conv => whnf)
  refine CallVC.pureF h rfl ?_
  exact ⟨rfl, rfl⟩

theorem may_spec (e : Ex) : Fits e → pureF Try.prog 59 [.p (enc e)] (.p (.bool (mayE e))) := by
  induction e using Ex.ind with
  | h o t xs ih =>
    intro hfit
    cases hfit with
    | mk _ _ _ ho ht hx hxs =>
    have he := encs_len xs
    have hany : pureF Try.prog 92 [.p (.list 3 (encs xs)), .p (.fn (.func 93))] (.p (.bool (xs.any fun a => !mayE a))) :=
      ContainsFuncE_spec xs hx (fun a => !mayE a) 93 (by kernel_rfl) fun a ha => mayFn_spec a (ih a ha (hxs a ha))
    have hall : (!(xs.any fun a => !mayE a)) = mayL xs := by rw [mayL_all, List.not_any_eq_all_not]; simp
    refine pureF_of f59_ok fun H => ?_
    (conv => whnf)
    refine CallD.pureF (arity_spec o ho) rfl ?_
    (conv => whnf)
    refine splitB_ne (fun h => ?_) (fun h => ?_)
    · exact ⟨by rw [mayE, decide_eq_false (by omega)]; rfl, rfl⟩
    · have h2 : mayE (.mk o t xs) = (textOk o t && mayL xs) := by rw [mayE, decide_eq_true (by omega)]; rfl
      have last : ∀ b : Bool, textOk o t = b → W Try.prog f59.c26 [(1, .ref (.l 0) 0), (3, .p (.bool b))] H [.cells [.p (.int .u8 o), .p (.str t), .p (.list 3 (encs xs))]] (endQ f59 fun r' H' => r' = .p (.bool (mayE (.mk o t xs))) ∧ H' = H) := by
        intro b hb
        cases b with
        | false =>
          (conv => whnf)
          refine splitB_f rfl ?_
          exact ⟨by rw [h2, hb]; rfl, rfl⟩
        | true =>
          (conv => whnf)
          refine splitB_t rfl ?_
          (conv => whnf)
          refine CallVC.pureF hany rfl ?_
          exact ⟨by rw [h2, hb, ← hall]; rfl, rfl⟩
      (conv => whnf)
      refine splitB_eq (fun h3 => ?_) (fun h3 => ?_)
      · have q := last true (by rw [textOk, if_pos h3])
        (conv at q => whnf)
        (conv => whnf)
        exact q
      · (conv => whnf)
        refine splitB_eq (fun h4 => ?_) (fun h4 => ?_)
        · have ht2 : textOk o t = (nameB t && (!eqS t ⟨#[116, 114, 117, 101]⟩ && !eqS t ⟨#[102, 97, 108, 115, 101]⟩)) := by rw [textOk, if_neg h3, if_pos h4]
          (conv => whnf)
          refine CallVC.pureF (Name_spec t ht) rfl ?_
          (conv => whnf)
          refine splitB_intro (fun h5 => ?_) (fun h5 => ?_)
          · have h5 : nameB t = true := h5
            (conv => whnf)
            refine splitB_intro (fun h6 => ?_) (fun h6 => ?_)
            · have h6 : (!eqS t ⟨#[116, 114, 117, 101]⟩) = true := h6
              have q := last (!eqS t ⟨#[102, 97, 108, 115, 101]⟩) (by rw [ht2, h5, h6]; rfl)
              (conv at q => whnf)
              (conv => whnf)
              exact q
            · have h6 : (!eqS t ⟨#[116, 114, 117, 101]⟩) = false := h6
              have q := last false (by rw [ht2, h5, h6]; rfl)
              (conv at q => whnf)
              (conv => whnf)
              exact q
          · have h5 : nameB t = false := h5
            (conv => whnf)
            refine splitB_f rfl ?_
            have q := last false (by rw [ht2, h5]; rfl)
            (conv at q => whnf)
            (conv => whnf)
            exact q
        · (conv => whnf)
          refine splitB_eq (fun h5 => ?_) (fun h5 => ?_)
          · (conv => whnf)
            refine CallVC.pureF (digits_spec t ht) rfl ?_
            have q := last (digitsB t) (by rw [textOk, if_neg h3, if_neg h4, if_pos h5])
            (conv at q => whnf)
            (conv => whnf)
            exact q
          · (conv => whnf)
            refine splitB_eq (fun h6 => ?_) (fun h6 => ?_)
            · have ht2 : textOk o t = decB t := by rw [textOk, if_neg h3, if_neg h4, if_neg h5, if_pos h6]
              have hsz : ∀ a b, ((t.extract a b).size : Int) ≤ 9223372036854775807 := fun a b => by
                have : (t.extract a b).size ≤ t.size := by simp [ByteArray.size_extract]; omega
                omega
              have hs1 : ((cutAt t 46).1.size : Int) ≤ 9223372036854775807 := by
                rw [cutAt]; split
                · exact hsz _ _
                · exact ht
              have hs2 : ((cutAt t 46).2.1.size : Int) ≤ 9223372036854775807 := by
                rw [cutAt]; split
                · exact hsz _ _
                · show ((0 : Nat) : Int) ≤ 9223372036854775807
                  omega
              (conv => whnf)
              refine CallVC.pureF (Cut_spec t ht 46) rfl ?_
              (conv => whnf)
              refine splitB_intro (fun h7 => ?_) (fun h7 => ?_)
              · have h7 : (cutAt t 46).2.2 = true := h7
                (conv => whnf)
                refine CallVC.pureF (digits_spec _ hs1) rfl ?_
                (conv => whnf)
                refine splitB_intro (fun h8 => ?_) (fun h8 => ?_)
                · have h8 : digitsB (cutAt t 46).1 = true := h8
                  (conv => whnf)
                  refine CallVC.pureF (digits_spec _ hs2) rfl ?_
                  have q := last (digitsB (cutAt t 46).2.1) (by rw [ht2, decB, h7, h8]; rfl)
                  (conv at q => whnf)
                  (conv => whnf)
                  exact q
                · have h8 : digitsB (cutAt t 46).1 = false := h8
                  have q := last false (by rw [ht2, decB, h7, h8]; rfl)
                  (conv at q => whnf)
                  (conv => whnf)
                  exact q
              · have h7 : (cutAt t 46).2.2 = false := h7
                (conv => whnf)
                refine splitB_f rfl ?_
                have q := last false (by rw [ht2, decB, h7]; rfl)
                (conv at q => whnf)
                (conv => whnf)
                exact q
            · have q := last (eqS t ⟨#[]⟩) (by rw [textOk, if_neg h3, if_neg h4, if_neg h5, if_neg h6])
              (conv at q => whnf)
              (conv => whnf)
              exact q

/-! ### the document's -/
theorem May_spec (e : Ex) : Fits e → pureF Try.prog 82 [.p (enc e)] (.p (.bool (mayE e))) := by
  induction e using Ex.ind with
  | h o t xs ih =>
    intro hfit
    cases hfit with
    | mk _ _ _ ho ht hx hxs =>
    have he := encs_len xs
    refine pureF_of f82_ok fun H => ?_
    (conv => whnf)
    refine CallD.pureF (Parts_spec o) rfl ?_
    (conv => whnf)
    refine splitB_ne (fun h => ?_) (fun h => ?_)
    · exact ⟨by rw [mayE, decide_eq_false (by omega)]; rfl, rfl⟩
    · have h2 : mayE (.mk o t xs) = (textOk o t && mayL xs) := by rw [mayE, decide_eq_true (by omega)]; rfl
      have last : ∀ b : Bool, textOk o t = b → W Try.prog f82.c39 [(1, .ref (.l 0) 0), (3, .p (.bool b))] H [.cells [.p (.int .u8 o), .p (.str t), .p (.list 3 (encs xs))]] (endQ f82 fun r' H' => r' = .p (.bool (mayE (.mk o t xs))) ∧ H' = H) := by
        intro b hb
        cases b with
        | false =>
          (conv => whnf)
          refine splitB_t rfl ?_
          exact ⟨by rw [h2, hb]; rfl, rfl⟩
        | true =>
          rw [hb, Bool.true_and] at h2
          (conv => whnf)
          refine splitB_f rfl ?_
          (conv => whnf)
          intro R hR
          have key : ∀ (rest : List Ex) (i : Nat), xs.drop i = rest → mayL xs = mayL rest → R [(1, .ref (.l 0) 0), (4, .p (.int .i64 i))] H [.cells [.p (.int .u8 o), .p (.str t), .p (.list 3 (encs xs))]] := by
            intro rest
            induction rest with
            | nil =>
              intro i hd hq
              have hl := drop_nil hd
              refine hR _ _ _ ?_
              (conv => whnf)
              refine splitB_f (decide_eq_false (by omega)) ?_
              exact ⟨by rw [h2, hq]; rfl, rfl⟩
            | cons a r ihr =>
              intro i hd hq
              obtain ⟨hg, hd', hi⟩ := drop_cons hd
              have iha := ih a (List.mem_of_getElem? hg) (hxs a (List.mem_of_getElem? hg))
              rw [mayL] at hq
              refine hR _ _ _ ?_
              (conv => whnf)
              refine splitB_t (decide_eq_true (by omega)) ?_
              (conv => whnf)
              obtain ⟨o', t', xs'⟩ := a
              refine ⟨rfl, enc (.mk o' t' xs'), ⟨by omega, encs_get hg⟩, ?_⟩
              (conv => whnf)
              refine CallVC.pureF iha rfl ?_
              (conv => whnf)
              refine splitB_intro (fun h3 => ?_) (fun h3 => ?_)
              · have h3 : mayE (.mk o' t' xs') = false := by simpa using h3
                exact ⟨by rw [h2, hq, h3]; rfl, rfl⟩
              · have h3 : mayE (.mk o' t' xs') = true := by simpa using h3
                (conv => whnf)
                rw [IntWalk.i64_in _ (by omega)]
                exact ihr (i + 1) hd' (by rw [hq, h3]; rfl)
          exact key xs 0 rfl rfl
      (conv => whnf)
      refine splitB_eq (fun h3 => ?_) (fun h3 => ?_)
      · have q := last true (by rw [textOk, if_pos h3])
        (conv at q => whnf)
        (conv => whnf)
        exact q
      · (conv => whnf)
        refine splitB_eq (fun h4 => ?_) (fun h4 => ?_)
        · have ht2 : textOk o t = (nameB t && (!eqS t ⟨#[116, 114, 117, 101]⟩ && !eqS t ⟨#[102, 97, 108, 115, 101]⟩)) := by rw [textOk, if_neg h3, if_pos h4]
          (conv => whnf)
          refine CallVC.pureF (refName_spec t ht) rfl ?_
          (conv => whnf)
          refine splitB_intro (fun h5 => ?_) (fun h5 => ?_)
          · have h5 : nameB t = true := h5
            (conv => whnf)
            refine splitB_intro (fun h6 => ?_) (fun h6 => ?_)
            · have h6 : (!eqS t ⟨#[116, 114, 117, 101]⟩) = true := h6
              have q := last (!eqS t ⟨#[102, 97, 108, 115, 101]⟩) (by rw [ht2, h5, h6]; rfl)
              (conv at q => whnf)
              (conv => whnf)
              exact q
            · have h6 : (!eqS t ⟨#[116, 114, 117, 101]⟩) = false := h6
              have q := last false (by rw [ht2, h5, h6]; rfl)
              (conv at q => whnf)
              (conv => whnf)
              exact q
          · have h5 : nameB t = false := h5
            (conv => whnf)
            refine splitB_f rfl ?_
            have q := last false (by rw [ht2, h5]; rfl)
            (conv at q => whnf)
            (conv => whnf)
            exact q
        · (conv => whnf)
          refine splitB_eq (fun h5 => ?_) (fun h5 => ?_)
          · (conv => whnf)
            refine CallVC.pureF (refDigits_spec t ht) rfl ?_
            have q := last (digitsB t) (by rw [textOk, if_neg h3, if_neg h4, if_pos h5])
            (conv at q => whnf)
            (conv => whnf)
            exact q
          · (conv => whnf)
            refine splitB_eq (fun h6 => ?_) (fun h6 => ?_)
            · (conv => whnf)
              refine CallVC.pureF (Dec_spec t ht) rfl ?_
              have q := last (decB t) (by rw [textOk, if_neg h3, if_neg h4, if_neg h5, if_pos h6])
              (conv at q => whnf)
              (conv => whnf)
              exact q
            · have q := last (eqS t ⟨#[]⟩) (by rw [textOk, if_neg h3, if_neg h4, if_neg h5, if_neg h6])
              (conv at q => whnf)
              (conv => whnf)
              exact q

end Go.Proofs.Ythmlninecfjjgaa.AD

namespace Go.Proofs.Ythmlninecfjjgaa.AD
open Go.Proofs
set_option linter.unusedVariables false
set_option linter.unusedSimpArgs false
set_option maxRecDepth 100000

def markEx : PV := .agg [.int .u8 77, .str ⟨#[]⟩, .nils]
mutual
def encT : Ex → PV
  | .mk o t xs => .agg [.int .u8 o, .str t, .lent 3 (encTs xs) [markEx]]
def encTs : List Ex → List PV
  | [] => []
  | a :: r => encT a :: encTs r
end
theorem encTs_map : ∀ l, encTs l = l.map encT
  | [] => rfl
  | a :: r => by rw [encTs, encTs_map r]; rfl
theorem encTs_len (xs : List Ex) : (encTs xs).length = xs.length := by rw [encTs_map, List.length_map]

/-- No row is long. -/
inductive Few : Ex → Prop
  | mk (o : Int) (t : ByteArray) (xs : List Ex) : xs.length ≤ 20000 → (∀ a, a ∈ xs → Few a) → Few (.mk o t xs)

theorem encT_le (e : Ex) : (encT e).le (enc e) := by
  induction e using Ex.ind with
  | h o t xs ih =>
    have main : ∀ l : List Ex, (∀ a, a ∈ l → (encT a).le (enc a)) → PV.les (encTs l) (encs l) := by
      intro l
      induction l with
      | nil => intro _; exact .nil
      | cons a r ihr => intro h; exact .cons _ _ _ _ (h a (by simp)) (ihr fun b hb => h b (by simp [hb]))
    exact .agg (.cons _ _ _ _ (.refl _) (.cons _ _ _ _ (.refl _) (.cons _ _ _ _ (.lent (main xs ih)) .nil)))

theorem encTs_take {xs : List Ex} {k : Nat} {a : Ex} (h : xs[k]? = some a) : encTs (xs.take (k + 1)) = encTs (xs.take k) ++ [encT a] := by
  rw [encTs_map, encTs_map, ← List.take_append_getElem (get_lt h), List.map_append]
  simp [(List.getElem?_eq_some_iff.1 h).2]
theorem encTs_cut (xs : List Ex) (k : Nat) : (encTs (xs.take k)).take k = encTs (xs.take k) := by
  apply List.take_of_length_le
  rw [encTs_len, List.length_take]
  omega

theorem LentExpr_spec (e : Ex) : Few e → pureF Try.prog 35 [.p (enc e)] (.p (encT e)) := by
  induction e using Ex.ind with
  | h o t xs ih =>
    intro hfew
    cases hfew with
    | mk _ _ _ hx hxs =>
    have he := encs_len xs
    refine pureF_of f35_ok fun H => ?_
    (conv => whnf)
    intro R hR
    have key : ∀ (rest : List Ex) (k : Nat), xs.drop (k + 1) = rest → k < xs.length → R [(1, .ref (.l 0) 0), (2, .ref (.l 1) 0), (3, .ref (.l 2) 0), (4, .p (.int .i64 (k + 1 : Nat)))] H
        [.cells [.p (.int .u8 o), .p (.str t), .p (.list 3 (encs xs))], .cells [.p (.int .u8 0), .p (.str ⟨#[]⟩), .p .nils], .cells [.p (.int .u8 o), .p (.str t), .view (.l 3) k 3 (k + 1)], .buf k 3 (encTs (xs.take (k + 1)))] := by
      intro rest
      induction rest with
      | nil =>
        intro k hd hk
        have hl := drop_nil hd
        have hk1 : k + 1 = xs.length := by omega
        refine hR _ _ _ ?_
        (conv => whnf)
        refine splitB_f (decide_eq_false (by omega)) ?_
        (conv => whnf)
        refine ⟨rfl, ?_⟩
        (conv => whnf)
        refine ⟨⟨rfl, rfl, rfl, by rw [encTs_len, List.length_take]; omega⟩, by simp [room]; omega, encTs xs ++ [markEx], by rw [encTs_cut, hk1, List.take_length]; rfl, ?_⟩
        (conv => whnf)
        refine ⟨rfl, ?_⟩
        (conv => whnf)
        refine ⟨⟨by omega, by rw [he]; simp; omega⟩, ?_⟩
        (conv => whnf)
        refine ⟨⟨rfl, rfl⟩, .inr ⟨encTs xs, [markEx], ⟨by omega, by simp⟩, rfl, by rw [encTs_len]; simp [he], ?_⟩⟩
        exact ⟨rfl, rfl⟩
      | cons a r ihr =>
        intro k hd hk
        obtain ⟨hg, hd', hi⟩ := drop_cons hd
        have iha := ih a (List.mem_of_getElem? hg) (hxs a (List.mem_of_getElem? hg))
        refine hR _ _ _ ?_
        (conv => whnf)
        refine splitB_t (decide_eq_true (by omega)) ?_
        (conv => whnf)
        obtain ⟨o', t', xs'⟩ := a
        refine ⟨rfl, enc (.mk o' t' xs'), ⟨by omega, encs_get hg⟩, ?_⟩
        (conv => whnf)
        refine CallD.pureF iha rfl ?_
        (conv => whnf)
        refine ⟨rfl, ?_⟩
        (conv => whnf)
        refine ⟨⟨rfl, rfl, rfl, by rw [encTs_len, List.length_take]; omega⟩, by simp [room]; omega, encTs (xs.take (k + 1 + 1)), by rw [encTs_cut, encTs_take hg], ?_⟩
        (conv => whnf)
        rw [IntWalk.i64_in _ (by omega)]
        exact ihr (k + 1) hd' hi
    cases xs with
    | nil =>
      refine hR _ _ _ ?_
      (conv => whnf)
      refine splitB_f rfl ?_
      (conv => whnf)
      refine ⟨rfl, ?_⟩
      (conv => whnf)
      refine ⟨by simp [room], ?_⟩
      (conv => whnf)
      refine ⟨rfl, ?_⟩
      (conv => whnf)
      refine ⟨⟨by omega, by decide⟩, ?_⟩
      (conv => whnf)
      refine ⟨⟨rfl, rfl⟩, .inr ⟨[], [markEx], ⟨by omega, by decide⟩, rfl, rfl, ?_⟩⟩
      exact ⟨rfl, rfl⟩
    | cons a r =>
      have iha := ih a (by simp) (hxs a (by simp))
      refine hR _ _ _ ?_
      (conv => whnf)
      refine splitB_t (decide_eq_true (by rw [he]; simp)) ?_
      (conv => whnf)
      obtain ⟨o', t', xs'⟩ := a
      refine ⟨rfl, enc (.mk o' t' xs'), ⟨by omega, rfl⟩, ?_⟩
      (conv => whnf)
      refine CallD.pureF iha rfl ?_
      (conv => whnf)
      refine ⟨rfl, ?_⟩
      (conv => whnf)
      refine ⟨by simp [room], ?_⟩
      (conv => whnf)
      exact key r 0 rfl (by simp)

theorem encTs_get {xs : List Ex} {i : Nat} {a : Ex} (h : xs[i]? = some a) : (encTs xs)[i]? = some (encT a) := by rw [encTs_map, List.getElem?_map, h]; rfl

theorem KeptExpr_spec (e : Ex) : Few e → pureF Try.prog 39 [.p (encT e), .p (enc e)] (.p (.bool true)) := by
  induction e using Ex.ind with
  | h o t xs ih =>
    intro hfew
    cases hfew with
    | mk _ _ _ hx hxs =>
    have he := encs_len xs
    have heT := encTs_len xs
    refine pureF_of f39_ok fun H => ?_
    (conv => whnf)
    refine splitB_f (by simp) ?_
    (conv => whnf)
    refine splitB_f (by simp) ?_
    (conv => whnf)
    refine splitB_f (by rw [he, heT]; simp) ?_
    (conv => whnf)
    rw [IntWalk.i64_in _ (by omega)]
    refine ⟨rfl, ⟨by omega, by rw [List.length_append, heT, he]; simp⟩, ?_⟩
    (conv => whnf)
    refine ⟨rfl, markEx, ⟨by omega, ?_⟩, ?_⟩
    · rw [List.take_of_length_le (by rw [List.length_append, heT, he]; simp)]
      rw [List.getElem?_append_right (by rw [heT, he]; simp)]
      simp [heT, he]
    (conv => whnf)
    refine splitB_f rfl ?_
    (conv => whnf)
    intro R hR
    have key : ∀ (rest : List Ex) (i : Nat), xs.drop i = rest → R [(2, .ref (.l 0) 0), (3, .ref (.l 1) 0), (5, .p (.int .i64 (encs xs).length)), (6, .p (.int .i64 i))] H
        [.cells [.p (.int .u8 o), .p (.str t), .p (.lent 3 (encTs xs) [markEx])], .cells [.p (.int .u8 o), .p (.str t), .p (.list 3 (encs xs))]] := by
      intro rest
      induction rest with
      | nil =>
        intro i hd
        have hl := drop_nil hd
        refine hR _ _ _ ?_
        (conv => whnf)
        refine splitB_f (decide_eq_false (by omega)) ?_
        exact ⟨rfl, rfl⟩
      | cons a r ihr =>
        intro i hd
        obtain ⟨hg, hd', hi⟩ := drop_cons hd
        have iha := ih a (List.mem_of_getElem? hg) (hxs a (List.mem_of_getElem? hg))
        refine hR _ _ _ ?_
        (conv => whnf)
        refine splitB_t (decide_eq_true (by omega)) ?_
        (conv => whnf)
        obtain ⟨o', t', xs'⟩ := a
        refine ⟨rfl, encT (.mk o' t' xs'), ⟨by omega, encTs_get hg⟩, ?_⟩
        (conv => whnf)
        refine ⟨rfl, enc (.mk o' t' xs'), ⟨by omega, encs_get hg⟩, ?_⟩
        (conv => whnf)
        refine CallD.pureF iha rfl ?_
        (conv => whnf)
        refine splitB_f rfl ?_
        (conv => whnf)
        rw [IntWalk.i64_in _ (by omega)]
        exact ihr (i + 1) hd'
    exact key xs 0 rfl

/-- A tree that is not large has short rows. -/
theorem few_of (e : Ex) : ∀ m : Int, m ≤ 20000 → size e m ≤ m → Few e := by
  induction e using Ex.ind with
  | h o t xs ih =>
    intro m hm h
    have main : ∀ (l : List Ex) (n : Int), (∀ a, a ∈ l → a ∈ xs) → 1 ≤ n → sizes l m n ≤ m → n + l.length ≤ m ∧ ∀ a, a ∈ l → Few a := by
      intro l
      induction l with
      | nil => intro n _ _ h; simp only [sizes] at h; exact ⟨by simpa using h, fun a ha => by cases ha⟩
      | cons a r ihr =>
        intro n hl hn h
        simp only [sizes] at h
        split at h
        · rename_i h2
          have h3 := sizes_le.1 a (m - n)
          have h4 := sizes_le.2 r m (n + size a (m - n)) (by omega)
          have h5 : size a (m - n) ≤ m - n := by omega
          obtain ⟨h6, h7⟩ := ihr _ (fun b hb => hl b (by simp [hb])) (by omega) h
          refine ⟨by simp; omega, fun b hb => ?_⟩
          cases hb with
          | head => exact ih a (hl a (by simp)) (m - n) (by omega) h5
          | tail _ hb => exact h7 b hb
        · omega
    obtain ⟨h1, h2⟩ := main xs 1 (fun _ h => h) (by omega) h
    exact .mk o t xs (by omega) h2

end Go.Proofs.Ythmlninecfjjgaa.AD

namespace Go.Proofs.Ythmlninecfjjgaa.AD
open Go.Proofs
set_option linter.unusedVariables false
set_option linter.unusedSimpArgs false
set_option maxRecDepth 100000

inductive Cl where
  | mk (kind : Int) (test value : Ex) (block : List Cl)

theorem Cl.ind {motive : Cl → Prop} (h : ∀ k t v b, (∀ a, a ∈ b → motive a) → motive (.mk k t v b)) (c : Cl) : motive c := by
  match c with
  | .mk k t v b => exact h k t v b fun a ha => Cl.ind h a
termination_by SizeOf.sizeOf c
decreasing_by
  have := List.sizeOf_lt_of_mem ha
  simp only [Cl.mk.sizeOf_spec]
  omega

mutual
def encC : Cl → PV
  | .mk k (.mk o t xs) (.mk o2 t2 xs2) b => .agg [.int .u8 k, .int .u8 o, .str t, .list 3 (encs xs), .int .u8 o2, .str t2, .list 3 (encs xs2), .list 8 (encCs b)]
def encCs : List Cl → List PV
  | [] => []
  | a :: r => encC a :: encCs r
end
theorem encCs_map : ∀ l, encCs l = l.map encC
  | [] => rfl
  | a :: r => by rw [encCs, encCs_map r]; rfl
theorem encCs_len (l : List Cl) : (encCs l).length = l.length := by rw [encCs_map, List.length_map]
theorem encCs_get {l : List Cl} {i : Nat} {a : Cl} (h : l[i]? = some a) : (encCs l)[i]? = some (encC a) := by rw [encCs_map, List.getElem?_map, h]; rfl

inductive FitsC : Cl → Prop
  | mk (k : Int) (t v : Ex) (b : List Cl) : 0 ≤ k → Fits t → Fits v → (b.length : Int) ≤ 9223372036854775807 → (∀ a, a ∈ b → FitsC a) → FitsC (.mk k t v b)

def zeroE : Ex → Bool
  | .mk o t xs => decide (o = 0) && (eqS t ⟨#[]⟩ && decide (xs.length = 0))
mutual
def checkC : Cl → Bool
  | .mk k t v b => (if k = 2 then mayE v && decide (b.length = 0) else if k = 3 then zeroE v && checkL b else if k = 1 then zeroE v && decide (b.length = 0) else false) && mayE t
def checkL : List Cl → Bool
  | [] => true
  | a :: r => checkC a && checkL r
end
def errT (b : Bool) : Int := if b then 0 else 151
theorem errT_zero (b : Bool) : errT b = 0 ↔ b = true := by cases b <;> simp [errT]

theorem Check_ind (l : List Cl) (hl : (l.length : Int) ≤ 9223372036854775807) (hf : ∀ c, c ∈ l → FitsC c) (ih : ∀ k t v b, Cl.mk k t v b ∈ l → pureF Try.prog 40 [.p (.list 8 (encCs b))] (.p (.int .i64 (errT (checkL b))))) :
    pureF Try.prog 40 [.p (.list 8 (encCs l))] (.p (.int .i64 (errT (checkL l)))) := by
  have he := encCs_len l
  refine pureF_of f40_ok fun H => ?_
  (conv => whnf)
  intro R hR
  have key : ∀ (rest : List Cl) (i : Nat), l.drop i = rest → checkL l = checkL rest → R [(7, .p (.list 8 (encCs l))), (8, .p (.int .i64 (encCs l).length)), (9, .p (.int .i64 i))] H [] := by
    intro rest
    induction rest with
    | nil =>
      intro i hd hq
      have hl := drop_nil hd
      refine hR _ _ _ ?_
      (conv => whnf)
      refine splitB_f (decide_eq_false (by omega)) ?_
      exact ⟨by rw [hq]; rfl, rfl⟩
    | cons c r ihr =>
      intro i hd hq
      obtain ⟨hg, hd', hi⟩ := drop_cons hd
      have hmem := List.mem_of_getElem? hg
      have hfc := hf c hmem
      obtain ⟨k, ⟨o, t, xs⟩, ⟨o2, t2, xs2⟩, b⟩ := c
      have ihc := ih _ _ _ _ hmem
      cases hfc with
      | mk _ _ _ _ hk hft hfv hb _ =>
      have hmt := may_spec _ hft
      have hmv := may_spec _ hfv
      have hex := encs_len xs2
      have heb := encCs_len b
      refine hR _ _ _ ?_
      (conv => whnf)
      refine splitB_t (decide_eq_true (by omega)) ?_
      (conv => whnf)
      refine ⟨rfl, encC (.mk k (.mk o t xs) (.mk o2 t2 xs2) b), ⟨by omega, encCs_get hg⟩, ?_⟩
      have hq2 : checkL l = (checkC (.mk k (.mk o t xs) (.mk o2 t2 xs2) b) && checkL r) := hq
      have bad : checkC (.mk k (.mk o t xs) (.mk o2 t2 xs2) b) = false → errT (checkL l) = 151 := fun e => by rw [hq2, e]; rfl
      have good : checkC (.mk k (.mk o t xs) (.mk o2 t2 xs2) b) = true → checkL l = checkL r := fun e => by rw [hq2, e]; rfl
      have hchk : checkC (.mk k (.mk o t xs) (.mk o2 t2 xs2) b) = ((if k = 2 then mayE (.mk o2 t2 xs2) && decide (b.length = 0) else if k = 3 then (decide (o2 = 0) && (eqS t2 ⟨#[]⟩ && decide (xs2.length = 0))) && checkL b else if k = 1 then (decide (o2 = 0) && (eqS t2 ⟨#[]⟩ && decide (xs2.length = 0))) && decide (b.length = 0) else false) && mayE (.mk o t xs)) := rfl
      repeat' ((conv => whnf); first | refine CallVC.pureF hmt rfl ?_ | refine CallVC.pureF hmv rfl ?_ | refine CallVC.pureF ihc rfl ?_ | refine splitB_t rfl ?_ | refine splitB_f rfl ?_ | (first | refine splitB_t rfl ?_ | refine splitB_f rfl ?_ | refine splitB_dec (fun h => ?_) (fun h => ?_) | refine splitB_eq (fun h => ?_) (fun h => ?_) | refine splitB_ne (fun h => ?_) (fun h => ?_) | refine splitB_intro (fun h => ?_) (fun h => ?_)))
      all_goals (try (conv => whnf))
      all_goals first
        | exact ⟨congrArg (fun n => AV.p (PV.int .i64 n)) (bad (by rw [hchk]; simp_all [eqS, errT_zero])).symm, rfl⟩
        | (rw [IntWalk.i64_in _ (by omega)]; exact ihr (i + 1) hd' (good (by rw [hchk]; simp_all [eqS, errT_zero])))
  exact key l 0 rfl rfl


theorem Check_all (c : Cl) : ∀ k t v b, c = .mk k t v b → FitsC c → pureF Try.prog 40 [.p (.list 8 (encCs b))] (.p (.int .i64 (errT (checkL b)))) := by
  induction c using Cl.ind with
  | h k t v b ih =>
    intro k' t' v' b' e hf
    cases e
    cases hf with
    | mk _ _ _ _ _ _ _ h1 h2 => exact Check_ind b h1 h2 fun k2 t2 v2 b2 hm => ih _ hm k2 t2 v2 b2 rfl (h2 _ hm)

theorem Check_spec (l : List Cl) (hl : (l.length : Int) ≤ 9223372036854775807) (hf : ∀ c, c ∈ l → FitsC c) : pureF Try.prog 40 [.p (.list 8 (encCs l))] (.p (.int .i64 (errT (checkL l)))) :=
  Check_ind l hl hf fun k t v b hm => Check_all _ k t v b rfl (hf _ hm)

/-- The type of any tree, or the error. -/
def ofT (e : Ex) : PV := if mayE e then (if typeT e = 0 then .tup [.int .u8 0, .int .i64 200] else .tup [.int .u8 (typeT e), .int .i64 0]) else .tup [.int .u8 0, .int .i64 151]

theorem ofT_tup (e : Ex) : ∃ a b, ofT e = .tup [.int .u8 a, .int .i64 b] := by
  unfold ofT
  split
  · split <;> exact ⟨_, _, rfl⟩
  · exact ⟨_, _, rfl⟩

end Go.Proofs.Ythmlninecfjjgaa.AD

namespace Go.Proofs.Ythmlninecfjjgaa.AD
open Go.Proofs
set_option linter.unusedVariables false
set_option linter.unusedSimpArgs false
set_option maxRecDepth 100000

/-- What is reached behind a test and a value. -/
def sizeTV (t v : Ex) (most n : Int) : Int :=
  if n + 1 + size t (most - n) ≤ most then n + 1 + size t (most - n) + size v (most - (n + 1 + size t (most - n))) else n + 1 + size t (most - n)
mutual
def sizeC : Cl → Int → Int → Int
  | .mk _ t v b, most, n => if sizeTV t v most n ≤ most then sizeTV t v most n + sizeCs b (most - sizeTV t v most n) 0 else sizeTV t v most n
def sizeCs : List Cl → Int → Int → Int
  | [], most, n => n
  | c :: r, most, n => if n ≤ most then sizeCs r most (sizeC c most n) else n
end

theorem sizeTV_le (t v : Ex) (most n : Int) (h : n ≤ most) : n + 2 ≤ sizeTV t v most n ∧ sizeTV t v most n ≤ most + 2 := by
  have h1 := sizes_le.1 t (most - n)
  have h2 := sizes_le.1 v (most - (n + 1 + size t (most - n)))
  simp only [sizeTV]
  split <;> omega

theorem sizeCs_ge : (∀ c most n, n ≤ most → n + 2 ≤ sizeC c most n ∧ sizeC c most n ≤ most + 2) ∧ ∀ l most n, n ≤ sizeCs l most n ∧ (sizeCs l most n ≤ n ∨ sizeCs l most n ≤ most + 2) := by
  have main : ∀ l : List Cl, (∀ c, c ∈ l → ∀ most n, n ≤ most → n + 2 ≤ sizeC c most n ∧ sizeC c most n ≤ most + 2) → ∀ most n, n ≤ sizeCs l most n ∧ (sizeCs l most n ≤ n ∨ sizeCs l most n ≤ most + 2) := by
    intro l
    induction l with
    | nil => intro _ most n; simp only [sizeCs]; omega
    | cons c r ih =>
      intro h most n
      simp only [sizeCs]
      split
      · rename_i hn
        have h1 := h c (by simp) most n hn
        have h2 := ih (fun c hc => h c (by simp [hc])) most (sizeC c most n)
        omega
      · omega
  have one : ∀ c most n, n ≤ most → n + 2 ≤ sizeC c most n ∧ sizeC c most n ≤ most + 2 := by
    intro c
    induction c using Cl.ind with
    | h k t v b ih =>
      intro most n hn
      have h1 := sizeTV_le t v most n hn
      have h2 := main b ih (most - sizeTV t v most n) 0
      simp only [sizeC]
      split <;> omega
  exact ⟨one, fun l => main l fun c _ => one c⟩

/-- No row is long. -/
inductive FewC : Cl → Prop
  | mk (k : Int) (t v : Ex) (b : List Cl) : Few t → Few v → b.length ≤ 20000 → (∀ c, c ∈ b → FewC c) → FewC (.mk k t v b)

theorem fewC_all : ∀ c : Cl, ∀ most n : Int, most ≤ 20000 → 0 ≤ n → n ≤ most → sizeC c most n ≤ most → FewC c := by
  intro c
  induction c using Cl.ind with
  | h k t v b ih =>
    intro most n hm h0 hn h
    have main : ∀ (l : List Cl) (m n : Int), (∀ c, c ∈ l → c ∈ b) → m ≤ 20000 → 0 ≤ n → sizeCs l m n ≤ m → n + l.length ≤ m ∧ ∀ c, c ∈ l → FewC c := by
      intro l
      induction l with
      | nil => intro m n _ _ _ h; simp only [sizeCs] at h; exact ⟨by simpa using h, fun c hc => by cases hc⟩
      | cons c r ihr =>
        intro m n hl hm h0 h
        simp only [sizeCs] at h
        split at h
        · rename_i h2
          have h3 := sizeCs_ge.1 c m n h2
          have h4 := sizeCs_ge.2 r m (sizeC c m n)
          obtain ⟨h6, h7⟩ := ihr m _ (fun d hd => hl d (by simp [hd])) hm (by omega) h
          refine ⟨by simp; omega, fun d hd => ?_⟩
          cases hd with
          | head => exact ih c (hl c (by simp)) m n hm h0 h2 (by omega)
          | tail _ hd => exact h7 d hd
        · omega
    have h1 := sizeTV_le t v most n hn
    simp only [sizeC] at h
    split at h
    · rename_i h2
      obtain ⟨h3, h4⟩ := main b (most - sizeTV t v most n) 0 (fun c hc => hc) (by omega) (by omega) (by omega)
      simp only [sizeTV] at h2 h3
      have g1 := sizes_le.1 t (most - n)
      split at h2
      · rename_i h5
        have g2 := sizes_le.1 v (most - (n + 1 + size t (most - n)))
        exact .mk k t v b (few_of t (most - n) (by omega) (by omega)) (few_of v (most - (n + 1 + size t (most - n))) (by omega) (by omega)) (by omega) h4
      · omega
    · omega

theorem fewCs_of (l : List Cl) (h : sizeCs l 20000 0 ≤ 20000) : l.length ≤ 20000 ∧ ∀ c, c ∈ l → FewC c := by
  have main : ∀ (l : List Cl) (n : Int), 0 ≤ n → sizeCs l 20000 n ≤ 20000 → n + l.length ≤ 20000 ∧ ∀ c, c ∈ l → FewC c := by
    intro l
    induction l with
    | nil => intro n _ h; simp only [sizeCs] at h; exact ⟨by simpa using h, fun c hc => by cases hc⟩
    | cons c r ihr =>
      intro n h0 h
      simp only [sizeCs] at h
      split at h
      · rename_i h2
        have h3 := sizeCs_ge.1 c 20000 n h2
        have h4 := sizeCs_ge.2 r 20000 (sizeC c 20000 n)
        obtain ⟨h6, h7⟩ := ihr _ (by omega) h
        refine ⟨by simp; omega, fun d hd => ?_⟩
        cases hd with
        | head => exact fewC_all c 20000 n (by omega) h0 h2 (by omega)
        | tail _ hd => exact h7 d hd
      · omega
  obtain ⟨h1, h2⟩ := main l 0 (by omega) h
  exact ⟨by omega, h2⟩

/-! ### lent -/
def markC : PV := .agg [.int .u8 77, .int .u8 0, .str ⟨#[]⟩, .nils, .int .u8 0, .str ⟨#[]⟩, .nils, .nils]
mutual
def encTC : Cl → PV
  | .mk k (.mk o t xs) (.mk o2 t2 xs2) b => .agg [.int .u8 k, .int .u8 o, .str t, .lent 3 (encTs xs) [markEx], .int .u8 o2, .str t2, .lent 3 (encTs xs2) [markEx], .lent 8 (encTCs b) [markC]]
def encTCs : List Cl → List PV
  | [] => []
  | a :: r => encTC a :: encTCs r
end
theorem encTCs_map : ∀ l, encTCs l = l.map encTC
  | [] => rfl
  | a :: r => by rw [encTCs, encTCs_map r]; rfl
theorem encTCs_len (l : List Cl) : (encTCs l).length = l.length := by rw [encTCs_map, List.length_map]
theorem encTCs_get {l : List Cl} {i : Nat} {a : Cl} (h : l[i]? = some a) : (encTCs l)[i]? = some (encTC a) := by rw [encTCs_map, List.getElem?_map, h]; rfl
theorem encTCs_take {xs : List Cl} {k : Nat} {a : Cl} (h : xs[k]? = some a) : encTCs (xs.take (k + 1)) = encTCs (xs.take k) ++ [encTC a] := by
  rw [encTCs_map, encTCs_map, ← List.take_append_getElem (get_lt h), List.map_append]
  simp [(List.getElem?_eq_some_iff.1 h).2]
theorem encTCs_cut (xs : List Cl) (k : Nat) : (encTCs (xs.take k)).take k = encTCs (xs.take k) := by
  apply List.take_of_length_le
  rw [encTCs_len, List.length_take]
  omega

theorem encTs_les (xs : List Ex) : PV.les (encTs xs) (encs xs) := by
  induction xs with
  | nil => exact .nil
  | cons a r ih => exact .cons _ _ _ _ (encT_le a) ih
theorem encTC_le (c : Cl) : (encTC c).le (encC c) := by
  induction c using Cl.ind with
  | h k t v b ih =>
    obtain ⟨o, t, xs⟩ := t
    obtain ⟨o2, t2, xs2⟩ := v
    have main : ∀ l : List Cl, (∀ a, a ∈ l → (encTC a).le (encC a)) → PV.les (encTCs l) (encCs l) := by
      intro l
      induction l with
      | nil => intro _; exact .nil
      | cons a r ihr => intro h; exact .cons _ _ _ _ (h a (by simp)) (ihr fun b hb => h b (by simp [hb]))
    exact .agg (.cons _ _ _ _ (.refl _) (.cons _ _ _ _ (.refl _) (.cons _ _ _ _ (.refl _) (.cons _ _ _ _ (.lent (encTs_les xs)) (.cons _ _ _ _ (.refl _) (.cons _ _ _ _ (.refl _) (.cons _ _ _ _ (.lent (encTs_les xs2)) (.cons _ _ _ _ (.lent (main b ih)) .nil))))))))
theorem encTCs_le (l : List Cl) : PV.le (.lent 8 (encTCs l) [markC]) (.list 8 (encCs l)) := by
  refine .lent ?_
  induction l with
  | nil => exact .nil
  | cons a r ih => exact .cons _ _ _ _ (encTC_le a) ih

theorem LentClauses_ind (l : List Cl) (hl : l.length ≤ 20000) (hf : ∀ c, c ∈ l → FewC c) (ih : ∀ k t v b, Cl.mk k t v b ∈ l → pureF Try.prog 17 [.p (.list 8 (encCs b))] (.p (.lent 8 (encTCs b) [markC]))) :
    pureF Try.prog 17 [.p (.list 8 (encCs l))] (.p (.lent 8 (encTCs l) [markC])) := by
  have he := encCs_len l
  refine pureF_of f17_ok fun H => ?_
  (conv => whnf)
  intro R hR
  have key : ∀ (a1 a2 a3 a4 a5 a6 a7 a8 : PV) (rest : List Cl) (k : Nat), l.drop (k + 1) = rest → k < l.length → R [(0, .p (.list 8 (encCs l))), (3, .view (.l 1) k 8 (k + 1)), (4, .p (.int .i64 (k + 1 : Nat)))] H [.cells [.p a1, .p a2, .p a3, .p a4, .p a5, .p a6, .p a7, .p a8], .buf k 8 (encTCs (l.take (k + 1)))] := by
    intro a1 a2 a3 a4 a5 a6 a7 a8 rest
    induction rest with
    | nil =>
      intro k hd hk
      have hl := drop_nil hd
      have hk1 : k + 1 = l.length := by omega
      refine hR _ _ _ ?_
      (conv => whnf)
      refine splitB_f (decide_eq_false (by omega)) ?_
      (conv => whnf)
      refine ⟨rfl, ?_⟩
      (conv => whnf)
      refine ⟨⟨rfl, rfl, rfl, by rw [encTCs_len, List.length_take]; omega⟩, by simp [room]; omega, encTCs l ++ [markC], by rw [encTCs_cut, hk1, List.take_length]; rfl, ?_⟩
      (conv => whnf)
      refine ⟨rfl, ?_⟩
      (conv => whnf)
      refine ⟨⟨by omega, by rw [he]; simp; omega⟩, ?_⟩
      (conv => whnf)
      refine ⟨⟨rfl, rfl⟩, .inr ⟨encTCs l, [markC], ⟨by omega, by simp⟩, rfl, by rw [encTCs_len]; simp [he], ?_⟩⟩
      exact ⟨rfl, rfl⟩
    | cons c r ihr =>
      intro k hd hk
      obtain ⟨hg, hd', hi⟩ := drop_cons hd
      have hmem := List.mem_of_getElem? hg
      have hfc := hf c hmem
      refine hR _ _ _ ?_
      (conv => whnf)
      refine splitB_t (decide_eq_true (by omega)) ?_
      (conv => whnf)
      obtain ⟨kk, ⟨o, t, xs⟩, ⟨o2, t2, xs2⟩, b⟩ := c
      have ihc := ih _ _ _ _ hmem
      cases hfc with
      | mk _ _ _ _ hft hfv hbl hfb =>
      refine ⟨rfl, encC (.mk kk (.mk o t xs) (.mk o2 t2 xs2) b), ⟨by omega, encCs_get hg⟩, ?_⟩
      (conv => whnf)
      refine ⟨rfl, encC (.mk kk (.mk o t xs) (.mk o2 t2 xs2) b), ⟨by omega, encCs_get hg⟩, ?_⟩
      (conv => whnf)
      refine CallD.pureF (LentExpr_spec _ hft) rfl ?_
      (conv => whnf)
      refine ⟨rfl, encC (.mk kk (.mk o t xs) (.mk o2 t2 xs2) b), ⟨by omega, encCs_get hg⟩, ?_⟩
      (conv => whnf)
      refine CallD.pureF (LentExpr_spec _ hfv) rfl ?_
      (conv => whnf)
      refine ⟨rfl, encC (.mk kk (.mk o t xs) (.mk o2 t2 xs2) b), ⟨by omega, encCs_get hg⟩, ?_⟩
      (conv => whnf)
      refine CallVC.pureF ihc rfl ?_
      (conv => whnf)
      refine ⟨rfl, ?_⟩
      (conv => whnf)
      refine ⟨⟨rfl, rfl, rfl, by rw [encTCs_len, List.length_take]; omega⟩, by simp [room]; omega, encTCs (l.take (k + 1 + 1)), by rw [encTCs_cut, encTCs_take hg]; rfl, ?_⟩
      (conv => whnf)
      rw [IntWalk.i64_in _ (by omega)]
      exact ihr (k + 1) hd' hi
  cases l with
  | nil =>
    refine hR _ _ _ ?_
    (conv => whnf)
    refine splitB_f rfl ?_
    (conv => whnf)
    refine ⟨rfl, ?_⟩
    (conv => whnf)
    refine ⟨by simp [room], ?_⟩
    (conv => whnf)
    refine ⟨rfl, ?_⟩
    (conv => whnf)
    refine ⟨⟨by omega, by decide⟩, ?_⟩
    (conv => whnf)
    refine ⟨⟨rfl, rfl⟩, .inr ⟨[], [markC], ⟨by omega, by decide⟩, rfl, rfl, ?_⟩⟩
    exact ⟨rfl, rfl⟩
  | cons c r =>
    have hfc := hf c (by simp)
    refine hR _ _ _ ?_
    (conv => whnf)
    refine splitB_t (decide_eq_true (by rw [he]; simp)) ?_
    (conv => whnf)
    obtain ⟨kk, ⟨o, t, xs⟩, ⟨o2, t2, xs2⟩, b⟩ := c
    have ihc := ih _ _ _ _ (by simp : Cl.mk kk (.mk o t xs) (.mk o2 t2 xs2) b ∈ _)
    cases hfc with
    | mk _ _ _ _ hft hfv hbl hfb =>
    refine ⟨rfl, encC (.mk kk (.mk o t xs) (.mk o2 t2 xs2) b), ⟨by omega, rfl⟩, ?_⟩
    (conv => whnf)
    refine ⟨rfl, encC (.mk kk (.mk o t xs) (.mk o2 t2 xs2) b), ⟨by omega, rfl⟩, ?_⟩
    (conv => whnf)
    refine CallD.pureF (LentExpr_spec _ hft) rfl ?_
    (conv => whnf)
    refine ⟨rfl, encC (.mk kk (.mk o t xs) (.mk o2 t2 xs2) b), ⟨by omega, rfl⟩, ?_⟩
    (conv => whnf)
    refine CallD.pureF (LentExpr_spec _ hfv) rfl ?_
    (conv => whnf)
    refine ⟨rfl, encC (.mk kk (.mk o t xs) (.mk o2 t2 xs2) b), ⟨by omega, rfl⟩, ?_⟩
    (conv => whnf)
    refine CallVC.pureF ihc rfl ?_
    (conv => whnf)
    refine ⟨rfl, ?_⟩
    (conv => whnf)
    refine ⟨by simp [room], ?_⟩
    (conv => whnf)
    exact key _ _ _ _ _ _ _ _ r 0 rfl (by simp)

theorem LentClauses_all (c : Cl) : ∀ k t v b, c = .mk k t v b → FewC c → pureF Try.prog 17 [.p (.list 8 (encCs b))] (.p (.lent 8 (encTCs b) [markC])) := by
  induction c using Cl.ind with
  | h k t v b ih =>
    intro k' t' v' b' e hf
    cases e
    cases hf with
    | mk _ _ _ _ _ _ hl hb => exact LentClauses_ind b hl hb fun k2 t2 v2 b2 hm => ih _ hm k2 t2 v2 b2 rfl (hb _ hm)
theorem LentClauses_spec (l : List Cl) (hl : l.length ≤ 20000) (hf : ∀ c, c ∈ l → FewC c) : pureF Try.prog 17 [.p (.list 8 (encCs l))] (.p (.lent 8 (encTCs l) [markC])) :=
  LentClauses_ind l hl hf fun k t v b hm => LentClauses_all _ k t v b rfl (hf _ hm)

theorem KeptClauses_ind (l : List Cl) (hl : l.length ≤ 20000) (hf : ∀ c, c ∈ l → FewC c) (ih : ∀ k t v b, Cl.mk k t v b ∈ l → pureF Try.prog 20 [.p (.lent 8 (encTCs b) [markC]), .p (.list 8 (encCs b))] (.p (.bool true))) :
    pureF Try.prog 20 [.p (.lent 8 (encTCs l) [markC]), .p (.list 8 (encCs l))] (.p (.bool true)) := by
  have he := encCs_len l
  have heT := encTCs_len l
  refine pureF_of f20_ok fun H => ?_
  (conv => whnf)
  refine splitB_f (by rw [he, heT]; simp) ?_
  (conv => whnf)
  rw [IntWalk.i64_in _ (by omega)]
  refine ⟨rfl, ⟨by omega, by rw [List.length_append, heT, he]; simp⟩, ?_⟩
  (conv => whnf)
  refine ⟨rfl, markC, ⟨by omega, ?_⟩, ?_⟩
  · rw [List.take_of_length_le (by rw [List.length_append, heT, he]; simp)]
    rw [List.getElem?_append_right (by rw [heT, he]; simp)]
    simp [heT, he]
  (conv => whnf)
  refine splitB_f rfl ?_
  (conv => whnf)
  intro R hR
  have key : ∀ (rest : List Cl) (i : Nat), l.drop i = rest → R [(0, .p (.lent 8 (encTCs l) [markC])), (1, .p (.list 8 (encCs l))), (5, .p (.int .i64 (encCs l).length)), (6, .p (.int .i64 i))] H [] := by
    intro rest
    induction rest with
    | nil =>
      intro i hd
      have hl := drop_nil hd
      refine hR _ _ _ ?_
      (conv => whnf)
      refine splitB_f (decide_eq_false (by omega)) ?_
      exact ⟨rfl, rfl⟩
    | cons c r ihr =>
      intro i hd
      obtain ⟨hg, hd', hi⟩ := drop_cons hd
      have hmem := List.mem_of_getElem? hg
      have hfc := hf c hmem
      refine hR _ _ _ ?_
      (conv => whnf)
      refine splitB_t (decide_eq_true (by omega)) ?_
      (conv => whnf)
      obtain ⟨kk, ⟨o, t, xs⟩, ⟨o2, t2, xs2⟩, b⟩ := c
      have ihc := ih _ _ _ _ hmem
      cases hfc with
      | mk _ _ _ _ hft hfv hbl hfb =>
      refine ⟨rfl, encTC (.mk kk (.mk o t xs) (.mk o2 t2 xs2) b), ⟨by omega, encTCs_get hg⟩, ?_⟩
      (conv => whnf)
      refine ⟨rfl, encC (.mk kk (.mk o t xs) (.mk o2 t2 xs2) b), ⟨by omega, encCs_get hg⟩, ?_⟩
      (conv => whnf)
      refine splitB_f (by simp) ?_
      (conv => whnf)
      refine ⟨rfl, encTC (.mk kk (.mk o t xs) (.mk o2 t2 xs2) b), ⟨by omega, encTCs_get hg⟩, ?_⟩
      (conv => whnf)
      refine ⟨rfl, encC (.mk kk (.mk o t xs) (.mk o2 t2 xs2) b), ⟨by omega, encCs_get hg⟩, ?_⟩
      (conv => whnf)
      refine CallD.pureF (KeptExpr_spec _ hft) rfl ?_
      (conv => whnf)
      refine splitB_f rfl ?_
      (conv => whnf)
      refine ⟨rfl, encTC (.mk kk (.mk o t xs) (.mk o2 t2 xs2) b), ⟨by omega, encTCs_get hg⟩, ?_⟩
      (conv => whnf)
      refine ⟨rfl, encC (.mk kk (.mk o t xs) (.mk o2 t2 xs2) b), ⟨by omega, encCs_get hg⟩, ?_⟩
      (conv => whnf)
      refine CallD.pureF (KeptExpr_spec _ hfv) rfl ?_
      (conv => whnf)
      refine splitB_f rfl ?_
      (conv => whnf)
      refine ⟨rfl, encTC (.mk kk (.mk o t xs) (.mk o2 t2 xs2) b), ⟨by omega, encTCs_get hg⟩, ?_⟩
      (conv => whnf)
      refine ⟨rfl, encC (.mk kk (.mk o t xs) (.mk o2 t2 xs2) b), ⟨by omega, encCs_get hg⟩, ?_⟩
      (conv => whnf)
      refine CallD.pureF ihc rfl ?_
      (conv => whnf)
      refine splitB_f rfl ?_
      (conv => whnf)
      rw [IntWalk.i64_in _ (by omega)]
      exact ihr (i + 1) hd'
  exact key l 0 rfl

theorem KeptClauses_all (c : Cl) : ∀ k t v b, c = .mk k t v b → FewC c → pureF Try.prog 20 [.p (.lent 8 (encTCs b) [markC]), .p (.list 8 (encCs b))] (.p (.bool true)) := by
  induction c using Cl.ind with
  | h k t v b ih =>
    intro k' t' v' b' e hf
    cases e
    cases hf with
    | mk _ _ _ _ _ _ hl hb => exact KeptClauses_ind b hl hb fun k2 t2 v2 b2 hm => ih _ hm k2 t2 v2 b2 rfl (hb _ hm)
theorem KeptClauses_spec (l : List Cl) (hl : l.length ≤ 20000) (hf : ∀ c, c ∈ l → FewC c) : pureF Try.prog 20 [.p (.lent 8 (encTCs l) [markC]), .p (.list 8 (encCs l))] (.p (.bool true)) :=
  KeptClauses_ind l hl hf fun k t v b hm => KeptClauses_all _ k t v b rfl (hf _ hm)

end Go.Proofs.Ythmlninecfjjgaa.AD

namespace Go.Proofs.Ythmlninecfjjgaa.AD
open Go.Proofs
set_option linter.unusedVariables false
set_option linter.unusedSimpArgs false
set_option maxRecDepth 100000

theorem zero_spec (e : Ex) : pureF Try.prog 83 [.p (enc e)] (.p (.bool (zeroE e))) := by
  obtain ⟨o, t, xs⟩ := e
  have he := encs_len xs
  refine pureF_of f83_ok fun H => ?_
  repeat' ((conv => whnf); first | refine splitB_t rfl ?_ | refine splitB_f rfl ?_ | (first | refine splitB_t rfl ?_ | refine splitB_f rfl ?_ | refine splitB_dec (fun h => ?_) (fun h => ?_) | refine splitB_eq (fun h => ?_) (fun h => ?_) | refine splitB_ne (fun h => ?_) (fun h => ?_) | refine splitB_intro (fun h => ?_) (fun h => ?_)))
  all_goals (try (conv => whnf))
  all_goals (refine ⟨congrArg (fun b => AV.p (PV.bool b)) ?_, rfl⟩; simp only [zeroE, eqS, he])
  · rw [decide_eq_true ‹o = 0›, beq_iff_eq.2 ‹t.toList = _›]
    cases xs with
    | nil => rfl
    | cons a r => simp; omega
  · rw [beq_eq_false_iff_ne.2 ‹¬t.toList = _›]; simp
  · rw [decide_eq_false ‹¬o = 0›]; rfl

theorem checkC_k (k : Int) (t v : Ex) (b : List Cl) :
    (k = 1 → checkC (.mk k t v b) = ((zeroE v && decide (b.length = 0)) && mayE t)) ∧ (k = 2 → checkC (.mk k t v b) = ((mayE v && decide (b.length = 0)) && mayE t)) ∧ (k = 3 → checkC (.mk k t v b) = ((zeroE v && checkL b) && mayE t)) ∧ ((k < 1 ∨ k > 3) → checkC (.mk k t v b) = false) := by
  refine ⟨fun h => ?_, fun h => ?_, fun h => ?_, fun h => ?_⟩
  · subst h; rfl
  · subst h; rfl
  · subst h; rfl
  · rw [checkC, if_neg (by omega), if_neg (by omega), if_neg (by omega)]; rfl

theorem refCheck_ind (l : List Cl) (hl : (l.length : Int) ≤ 9223372036854775807) (hf : ∀ c, c ∈ l → FitsC c) (ih : ∀ k t v b, Cl.mk k t v b ∈ l → pureF Try.prog 53 [.p (.list 8 (encCs b))] (.p (.int .i64 (errT (checkL b))))) :
    pureF Try.prog 53 [.p (.list 8 (encCs l))] (.p (.int .i64 (errT (checkL l)))) := by
  have he := encCs_len l
  refine pureF_of f53_ok fun H => ?_
  (conv => whnf)
  intro R hR
  have key : ∀ (rest : List Cl) (i : Nat), l.drop i = rest → checkL l = checkL rest → R [(0, .p (.list 8 (encCs l))), (3, .p (.int .i64 i))] H [] := by
    intro rest
    induction rest with
    | nil =>
      intro i hd hq
      have hl := drop_nil hd
      refine hR _ _ _ ?_
      (conv => whnf)
      refine splitB_f (decide_eq_false (by omega)) ?_
      exact ⟨by rw [hq]; rfl, rfl⟩
    | cons c r ihr =>
      intro i hd hq
      obtain ⟨hg, hd', hi⟩ := drop_cons hd
      have hmem := List.mem_of_getElem? hg
      have hfc := hf c hmem
      obtain ⟨k, ⟨o, t, xs⟩, ⟨o2, t2, xs2⟩, b⟩ := c
      have ihc := ih _ _ _ _ hmem
      cases hfc with
      | mk _ _ _ _ hk hft hfv hb _ =>
      have hmt := May_spec _ hft
      have hmv := May_spec _ hfv
      have hz := zero_spec (.mk o2 t2 xs2)
      have hex := encs_len xs2
      have heb := encCs_len b
      refine hR _ _ _ ?_
      (conv => whnf)
      refine splitB_t (decide_eq_true (by omega)) ?_
      (conv => whnf)
      refine ⟨rfl, encC (.mk k (.mk o t xs) (.mk o2 t2 xs2) b), ⟨by omega, encCs_get hg⟩, ?_⟩
      have hq2 : checkL l = (checkC (.mk k (.mk o t xs) (.mk o2 t2 xs2) b) && checkL r) := hq
      have bad : checkC (.mk k (.mk o t xs) (.mk o2 t2 xs2) b) = false → errT (checkL l) = 151 := fun e => by rw [hq2, e]; rfl
      have good : checkC (.mk k (.mk o t xs) (.mk o2 t2 xs2) b) = true → checkL l = checkL r := fun e => by rw [hq2, e]; rfl
      have hnil : b.length = 0 → checkL b = true := fun h => by rw [List.length_eq_zero_iff.1 h]; rfl
      obtain ⟨c1, c2, c3, c4⟩ := checkC_k k (.mk o t xs) (.mk o2 t2 xs2) b
      have hlz : ¬ ((encCs b).length : Int) > 0 → decide (b.length = 0) = true := fun h => decide_eq_true (by omega)
      have hlp : ((encCs b).length : Int) > 0 → decide (b.length = 0) = false := fun h => decide_eq_false (by omega)
      rcases (show k = 1 ∨ k = 2 ∨ k = 3 ∨ (k < 1 ∨ k > 3) by omega) with rfl | rfl | rfl | hk'
      · have hchk := c1 rfl
        clear c1 c2 c3 c4
        cases hcb : checkL b
        all_goals rw [hcb] at ihc
        all_goals repeat' ((conv => whnf); first | refine CallVC.pureF hmt rfl ?_ | refine CallVC.pureF hmv rfl ?_ | refine CallVC.pureF hz rfl ?_ | refine CallVC.pureF ihc rfl ?_ | refine splitB_t rfl ?_ | refine splitB_f rfl ?_ | (first | refine splitB_t rfl ?_ | refine splitB_f rfl ?_ | refine splitB_dec (fun h => ?_) (fun h => ?_) | refine splitB_eq (fun h => ?_) (fun h => ?_) | refine splitB_ne (fun h => ?_) (fun h => ?_) | refine splitB_intro (fun h => ?_) (fun h => ?_)))
        all_goals (try (conv => whnf))
        all_goals first
          | (exfalso; omega)
          | exact ⟨congrArg (fun n => AV.p (PV.int .i64 n)) (bad hchk).symm, rfl⟩
          | exact ⟨congrArg (fun n => AV.p (PV.int .i64 n)) (bad (by rw [hchk]; clear hR ihr; simp_all)).symm, rfl⟩
          | (rw [IntWalk.i64_in _ (by omega)]; exact ihr (i + 1) hd' (good (by rw [hchk]; clear hR ihr; simp_all)))
      · have hchk := c2 rfl
        clear c1 c2 c3 c4
        cases hcb : checkL b
        all_goals rw [hcb] at ihc
        all_goals repeat' ((conv => whnf); first | refine CallVC.pureF hmt rfl ?_ | refine CallVC.pureF hmv rfl ?_ | refine CallVC.pureF hz rfl ?_ | refine CallVC.pureF ihc rfl ?_ | refine splitB_t rfl ?_ | refine splitB_f rfl ?_ | (first | refine splitB_t rfl ?_ | refine splitB_f rfl ?_ | refine splitB_dec (fun h => ?_) (fun h => ?_) | refine splitB_eq (fun h => ?_) (fun h => ?_) | refine splitB_ne (fun h => ?_) (fun h => ?_) | refine splitB_intro (fun h => ?_) (fun h => ?_)))
        all_goals (try (conv => whnf))
        all_goals first
          | (exfalso; omega)
          | exact ⟨congrArg (fun n => AV.p (PV.int .i64 n)) (bad hchk).symm, rfl⟩
          | exact ⟨congrArg (fun n => AV.p (PV.int .i64 n)) (bad (by rw [hchk]; clear hR ihr; simp_all)).symm, rfl⟩
          | (rw [IntWalk.i64_in _ (by omega)]; exact ihr (i + 1) hd' (good (by rw [hchk]; clear hR ihr; simp_all)))
      · have hchk := c3 rfl
        clear c1 c2 c3 c4
        cases hcb : checkL b
        all_goals rw [hcb] at ihc
        all_goals repeat' ((conv => whnf); first | refine CallVC.pureF hmt rfl ?_ | refine CallVC.pureF hmv rfl ?_ | refine CallVC.pureF hz rfl ?_ | refine CallVC.pureF ihc rfl ?_ | refine splitB_t rfl ?_ | refine splitB_f rfl ?_ | (first | refine splitB_t rfl ?_ | refine splitB_f rfl ?_ | refine splitB_dec (fun h => ?_) (fun h => ?_) | refine splitB_eq (fun h => ?_) (fun h => ?_) | refine splitB_ne (fun h => ?_) (fun h => ?_) | refine splitB_intro (fun h => ?_) (fun h => ?_)))
        all_goals (try (conv => whnf))
        all_goals first
          | (exfalso; omega)
          | exact ⟨congrArg (fun n => AV.p (PV.int .i64 n)) (bad hchk).symm, rfl⟩
          | exact ⟨congrArg (fun n => AV.p (PV.int .i64 n)) (bad (by rw [hchk]; clear hR ihr; simp_all)).symm, rfl⟩
          | (rw [IntWalk.i64_in _ (by omega)]; exact ihr (i + 1) hd' (good (by rw [hchk]; clear hR ihr; simp_all)))
      · have hchk := c4 hk'
        clear c1 c2 c3 c4
        cases hcb : checkL b
        all_goals rw [hcb] at ihc
        all_goals repeat' ((conv => whnf); first | refine CallVC.pureF hmt rfl ?_ | refine CallVC.pureF hmv rfl ?_ | refine CallVC.pureF hz rfl ?_ | refine CallVC.pureF ihc rfl ?_ | refine splitB_t rfl ?_ | refine splitB_f rfl ?_ | (first | refine splitB_t rfl ?_ | refine splitB_f rfl ?_ | refine splitB_dec (fun h => ?_) (fun h => ?_) | refine splitB_eq (fun h => ?_) (fun h => ?_) | refine splitB_ne (fun h => ?_) (fun h => ?_) | refine splitB_intro (fun h => ?_) (fun h => ?_)))
        all_goals (try (conv => whnf))
        all_goals first
          | (exfalso; omega)
          | exact ⟨congrArg (fun n => AV.p (PV.int .i64 n)) (bad hchk).symm, rfl⟩
          | exact ⟨congrArg (fun n => AV.p (PV.int .i64 n)) (bad (by rw [hchk]; clear hR ihr; simp_all)).symm, rfl⟩
          | (rw [IntWalk.i64_in _ (by omega)]; exact ihr (i + 1) hd' (good (by rw [hchk]; clear hR ihr; simp_all)))
  exact key l 0 rfl rfl

theorem refCheck_all (c : Cl) : ∀ k t v b, c = .mk k t v b → FitsC c → pureF Try.prog 53 [.p (.list 8 (encCs b))] (.p (.int .i64 (errT (checkL b)))) := by
  induction c using Cl.ind with
  | h k t v b ih =>
    intro k' t' v' b' e hf
    cases e
    cases hf with
    | mk _ _ _ _ _ _ _ h1 h2 => exact refCheck_ind b h1 h2 fun k2 t2 v2 b2 hm => ih _ hm k2 t2 v2 b2 rfl (h2 _ hm)

theorem refCheck_spec (l : List Cl) (hl : (l.length : Int) ≤ 9223372036854775807) (hf : ∀ c, c ∈ l → FitsC c) : pureF Try.prog 53 [.p (.list 8 (encCs l))] (.p (.int .i64 (errT (checkL l)))) :=
  refCheck_ind l hl hf fun k t v b hm => refCheck_all _ k t v b rfl (hf _ hm)

/-! ### are they right -/
mutual
def rightC : Cl → Bool
  | .mk k t v b => decide (typeT t = 4) && ((!decide (k = 2) || decide (typeT v = 1)) && rightL b)
def rightL : List Cl → Bool
  | [] => true
  | a :: r => rightC a && rightL r
end
theorem rightL_all : ∀ l, rightL l = l.all rightC
  | [] => rfl
  | a :: r => by rw [rightL, rightL_all r]; rfl

/-- What checks is shaped. -/
theorem checkC_parts {k t v b} (h : checkC (.mk k t v b) = true) : Shaped t ∧ (k = 2 → Shaped v) ∧ checkL b = true := by
  simp only [checkC, Bool.and_eq_true] at h
  obtain ⟨h1, h2⟩ := h
  refine ⟨shaped_of _ h2, fun hk => ?_, ?_⟩
  · rw [if_pos hk, Bool.and_eq_true] at h1
    exact shaped_of _ h1.1
  · have hnil : b.length = 0 → checkL b = true := fun h => by rw [List.length_eq_zero_iff.1 h]; rfl
    split at h1
    · simp only [Bool.and_eq_true, decide_eq_true_eq] at h1; exact hnil h1.2
    · split at h1
      · simp only [Bool.and_eq_true] at h1; exact h1.2
      · split at h1
        · simp only [Bool.and_eq_true, decide_eq_true_eq] at h1; exact hnil h1.2
        · cases h1

theorem refRight_ind (l : List Cl) (hl : (l.length : Int) ≤ 9223372036854775807) (hc : checkL l = true) (ih : ∀ k t v b, Cl.mk k t v b ∈ l → pureF Try.prog 54 [.p (.list 8 (encCs b))] (.p (.bool (rightL b)))) :
    pureF Try.prog 54 [.p (.list 8 (encCs l))] (.p (.bool (rightL l))) := by
  have he := encCs_len l
  refine pureF_of f54_ok fun H => ?_
  (conv => whnf)
  intro R hR
  have key : ∀ (rest : List Cl) (i : Nat), l.drop i = rest → checkL rest = true → rightL l = rightL rest → R [(0, .p (.list 8 (encCs l))), (3, .p (.int .i64 i))] H [] := by
    intro rest
    induction rest with
    | nil =>
      intro i hd _ hq
      have hl := drop_nil hd
      refine hR _ _ _ ?_
      (conv => whnf)
      refine splitB_f (decide_eq_false (by omega)) ?_
      exact ⟨by rw [hq]; rfl, rfl⟩
    | cons c r ihr =>
      intro i hd hchk hq
      obtain ⟨hg, hd', hi⟩ := drop_cons hd
      have hmem := List.mem_of_getElem? hg
      obtain ⟨k, ⟨o, t, xs⟩, ⟨o2, t2, xs2⟩, b⟩ := c
      have ihc := ih _ _ _ _ hmem
      simp only [checkL, Bool.and_eq_true] at hchk
      obtain ⟨hc1, hc2⟩ := hchk
      obtain ⟨s1, s2, s3⟩ := checkC_parts hc1
      have ht := Type_spec _ s1
      refine hR _ _ _ ?_
      (conv => whnf)
      refine splitB_t (decide_eq_true (by omega)) ?_
      have hel : ∃ e, (0 ≤ (i : Int) ∧ (encCs l)[((i : Int)).toNat]? = some e) ∧ e = encC (.mk k (.mk o t xs) (.mk o2 t2 xs2) b) := ⟨_, ⟨by omega, encCs_get hg⟩, rfl⟩
      have hq2 : rightL l = (rightC (.mk k (.mk o t xs) (.mk o2 t2 xs2) b) && rightL r) := hq
      have hrc : rightC (.mk k (.mk o t xs) (.mk o2 t2 xs2) b) = (decide (typeT (.mk o t xs) = 4) && ((!decide (k = 2) || decide (typeT (.mk o2 t2 xs2) = 1)) && rightL b)) := rfl
      rcases (show k = 2 ∨ k ≠ 2 by omega) with rfl | hk2
      · have hv := Type_spec _ (s2 rfl)
        repeat' ((conv => whnf); first | refine CallVC.pureF ht rfl ?_ | refine CallVC.pureF hv rfl ?_ | refine CallVC.pureF ihc rfl ?_ | refine ⟨rfl, encC (.mk 2 (.mk o t xs) (.mk o2 t2 xs2) b), ⟨by omega, encCs_get hg⟩, ?_⟩ | refine splitB_t rfl ?_ | refine splitB_f rfl ?_ | (first | refine splitB_t rfl ?_ | refine splitB_f rfl ?_ | refine splitB_dec (fun h => ?_) (fun h => ?_) | refine splitB_eq (fun h => ?_) (fun h => ?_) | refine splitB_ne (fun h => ?_) (fun h => ?_) | refine splitB_intro (fun h => ?_) (fun h => ?_)))
        all_goals (try (conv => whnf))
        all_goals first
          | exact ⟨congrArg (fun n => AV.p (PV.bool n)) (by rw [hq2, hrc]; clear hR ihr; simp_all), rfl⟩
          | (rw [IntWalk.i64_in _ (by omega)]; exact ihr (i + 1) hd' hc2 (by rw [hq2, hrc]; clear hR ihr; simp_all))
      · repeat' ((conv => whnf); first | refine CallVC.pureF ht rfl ?_ | refine CallVC.pureF ihc rfl ?_ | refine ⟨rfl, encC (.mk k (.mk o t xs) (.mk o2 t2 xs2) b), ⟨by omega, encCs_get hg⟩, ?_⟩ | refine splitB_f (beq_eq_false_iff_ne.2 hk2) ?_ | refine splitB_t rfl ?_ | refine splitB_f rfl ?_ | (first | refine splitB_t rfl ?_ | refine splitB_f rfl ?_ | refine splitB_dec (fun h => ?_) (fun h => ?_) | refine splitB_eq (fun h => ?_) (fun h => ?_) | refine splitB_ne (fun h => ?_) (fun h => ?_) | refine splitB_intro (fun h => ?_) (fun h => ?_)))
        all_goals (try (conv => whnf))
        all_goals first
          | exact ⟨congrArg (fun n => AV.p (PV.bool n)) (by rw [hq2, hrc]; clear hR ihr; simp_all), rfl⟩
          | (rw [IntWalk.i64_in _ (by omega)]; exact ihr (i + 1) hd' hc2 (by rw [hq2, hrc]; clear hR ihr; simp_all))
  exact key l 0 rfl hc rfl

theorem checkL_mem : ∀ l : List Cl, checkL l = true → ∀ c, c ∈ l → checkC c = true := by
  intro l
  induction l with
  | nil => intro _ c hc; cases hc
  | cons a r ih =>
    intro h c hc
    simp only [checkL, Bool.and_eq_true] at h
    cases hc with
    | head => exact h.1
    | tail _ hc => exact ih h.2 c hc

theorem refRight_all (c : Cl) : FitsC c → ∀ k t v b, c = .mk k t v b → checkL b = true → pureF Try.prog 54 [.p (.list 8 (encCs b))] (.p (.bool (rightL b))) := by
  induction c using Cl.ind with
  | h k t v b ih =>
    intro hf k' t' v' b' e hc
    cases e
    cases hf with
    | mk _ _ _ _ _ _ _ h1 h2 => exact refRight_ind b h1 hc fun k2 t2 v2 b2 hm => ih _ hm (h2 _ hm) k2 t2 v2 b2 rfl (checkC_parts (checkL_mem b hc _ hm)).2.2
theorem refRight_spec (l : List Cl) (hl : (l.length : Int) ≤ 9223372036854775807) (hf : ∀ c, c ∈ l → FitsC c) (hc : checkL l = true) : pureF Try.prog 54 [.p (.list 8 (encCs l))] (.p (.bool (rightL l))) :=
  refRight_ind l hl hc fun k t v b hm => refRight_all _ (hf _ hm) k t v b rfl (checkC_parts (checkL_mem l hc _ hm)).2.2

/-! ### the program's -/
theorem IndexFuncC_spec (l : List Cl) (hx : (l.length : Int) ≤ 9223372036854775807) (p : Cl → Bool) (f : Nat) (hf : enters Try.prog f = true) (hp : ∀ a, a ∈ l → pureF Try.prog f [.p (encC a)] (.p (.bool (p a)))) :
    pureF Try.prog 60 [.p (.list 8 (encCs l)), .p (.fn (.func f))] (.p (.int .i64 (idxF p l))) := by
  refine pureF_of f60_ok fun H => ?_
  (conv => whnf)
  intro R hR
  have he := encCs_len l
  have key : ∀ (rest : List Cl) (i : Nat), l.drop i = rest → idxF p l = (if idxF p rest = -1 then -1 else idxF p rest + i) → R [(0, .p (.list 8 (encCs l))), (1, .p (.fn (.func f))), (7, .p (.int .i64 (encCs l).length)), (8, .p (.int .i64 i))] H [] := by
    intro rest
    induction rest with
    | nil =>
      intro i hd hq
      have hl := drop_nil hd
      refine hR _ _ _ ?_
      (conv => whnf)
      refine splitB_f (decide_eq_false (by omega)) ?_
      exact ⟨by rw [hq]; rfl, rfl⟩
    | cons a r ih =>
      intro i hd hq
      obtain ⟨hg, hd', hi⟩ := drop_cons hd
      have hpa := hp a (List.mem_of_getElem? hg)
      refine hR _ _ _ ?_
      (conv => whnf)
      refine splitB_t (decide_eq_true (by omega)) ?_
      (conv => whnf)
      obtain ⟨kk, ⟨o, t, xs⟩, ⟨o2, t2, xs2⟩, b⟩ := a
      refine ⟨rfl, encC (.mk kk (.mk o t xs) (.mk o2 t2 xs2) b), ⟨by omega, encCs_get hg⟩, ?_⟩
      (conv => whnf)
      refine ⟨hf, ?_⟩
      refine CallVC.pureF hpa rfl ?_
      (conv => whnf)
      refine splitB_intro (fun h => ?_) (fun h => ?_)
      · exact ⟨by rw [hq]; simp [idxF, h], rfl⟩
      · (conv => whnf)
        rw [IntWalk.i64_in _ (by omega)]
        refine ih (i + 1) hd' ?_
        rw [hq]
        simp only [idxF, h, Bool.false_eq_true, if_false]
        have := idxF_ge p r
        by_cases h3 : idxF p r = -1
        · rw [if_pos h3, if_pos rfl, if_pos h3]
        · rw [if_neg h3, if_neg (by omega), if_neg h3]; push_cast; omega
  refine key l 0 rfl ?_
  by_cases h3 : idxF p l = -1
  · rw [if_pos h3]; exact h3
  · rw [if_neg h3]; simp

theorem ContainsFuncC_spec (l : List Cl) (hx : (l.length : Int) ≤ 9223372036854775807) (p : Cl → Bool) (f : Nat) (hf : enters Try.prog f = true) (hp : ∀ a, a ∈ l → pureF Try.prog f [.p (encC a)] (.p (.bool (p a)))) :
    pureF Try.prog 41 [.p (.list 8 (encCs l)), .p (.fn (.func f))] (.p (.bool (l.any p))) := by
  refine pureF_of f41_ok fun H => ?_
  (conv => whnf)
  refine CallVC.pureF (IndexFuncC_spec l hx p f hf hp) rfl ?_
  exact ⟨by rw [← idxF_any], rfl⟩

theorem right_spec (c : Cl) : FitsC c → checkC c = true → pureF Try.prog 61 [.p (encC c)] (.p (.bool (rightC c))) := by
  induction c using Cl.ind with
  | h k t v b ih =>
    intro hf hc
    cases hf with
    | mk _ _ _ _ hk hft hfv hb hbs =>
    obtain ⟨s1, s2, s3⟩ := checkC_parts hc
    have hany : pureF Try.prog 41 [.p (.list 8 (encCs b)), .p (.fn (.func 42))] (.p (.bool (b.any fun a => !rightC a))) :=
      ContainsFuncC_spec b hb (fun a => !rightC a) 42 (by kernel_rfl) fun a ha => by
        have h := ih a ha (hbs a ha) (checkL_mem b s3 a ha)
        refine pureF_of f42_ok fun H => ?_
        obtain ⟨kk, ⟨o, t, xs⟩, ⟨o2, t2, xs2⟩, b⟩ := a
        (conv => whnf)
        refine CallVC.pureF h rfl ?_
        exact ⟨rfl, rfl⟩
    have hall : (!(b.any fun a => !rightC a)) = rightL b := by rw [rightL_all, List.not_any_eq_all_not]; simp
    have ht := typed_spec _ s1
    refine pureF_of f61_ok fun H => ?_
    obtain ⟨o, t, xs⟩ := t
    obtain ⟨o2, t2, xs2⟩ := v
    have hrc : rightC (.mk k (.mk o t xs) (.mk o2 t2 xs2) b) = (decide (typeT (.mk o t xs) = 4) && ((!decide (k = 2) || decide (typeT (.mk o2 t2 xs2) = 1)) && (!(b.any fun a => !rightC a)))) := by rw [hall]; rfl
    rcases (show k = 2 ∨ k ≠ 2 by omega) with rfl | hk2
    · have hv := typed_spec _ (s2 rfl)
      repeat' ((conv => whnf); first | refine CallVC.pureF ht rfl ?_ | refine CallVC.pureF hv rfl ?_ | refine CallVC.pureF hany rfl ?_ | refine splitB_t rfl ?_ | refine splitB_f rfl ?_ | (first | refine splitB_t rfl ?_ | refine splitB_f rfl ?_ | refine splitB_dec (fun h => ?_) (fun h => ?_) | refine splitB_eq (fun h => ?_) (fun h => ?_) | refine splitB_ne (fun h => ?_) (fun h => ?_) | refine splitB_intro (fun h => ?_) (fun h => ?_)))
      all_goals (try (conv => whnf))
      all_goals exact ⟨congrArg (fun n => AV.p (PV.bool n)) (by rw [hrc]; simp_all), rfl⟩
    · repeat' ((conv => whnf); first | refine CallVC.pureF ht rfl ?_ | refine CallVC.pureF hany rfl ?_ | refine splitB_t (bne_iff_ne.2 hk2) ?_ | refine splitB_t rfl ?_ | refine splitB_f rfl ?_ | (first | refine splitB_t rfl ?_ | refine splitB_f rfl ?_ | refine splitB_dec (fun h => ?_) (fun h => ?_) | refine splitB_eq (fun h => ?_) (fun h => ?_) | refine splitB_ne (fun h => ?_) (fun h => ?_) | refine splitB_intro (fun h => ?_) (fun h => ?_)))
      all_goals (try (conv => whnf))
      all_goals exact ⟨congrArg (fun n => AV.p (PV.bool n)) (by rw [hrc]; simp_all), rfl⟩

theorem wrong_spec (c : Cl) (hf : FitsC c) (hc : checkC c = true) : pureF Try.prog 42 [.p (encC c)] (.p (.bool (!rightC c))) := by
  have h := right_spec c hf hc
  refine pureF_of f42_ok fun H => ?_
  obtain ⟨kk, ⟨o, t, xs⟩, ⟨o2, t2, xs2⟩, b⟩ := c
  (conv => whnf)
  refine CallVC.pureF h rfl ?_
  exact ⟨rfl, rfl⟩

/-- What is told of clauses. -/
def clsT (l : List Cl) : Int := if checkL l then (if rightL l then 0 else 200) else 151

theorem refClauses_spec (l : List Cl) (hl : (l.length : Int) ≤ 9223372036854775807) (hf : ∀ c, c ∈ l → FitsC c) : pureF Try.prog 36 [.p (.list 8 (encCs l))] (.p (.int .i64 (clsT l))) := by
  have hc := refCheck_spec l hl hf
  refine pureF_of f36_ok fun H => ?_
  cases h : checkL l with
  | false =>
    rw [h] at hc
    (conv => whnf)
    refine CallVC.pureF hc rfl ?_
    (conv => whnf)
    refine splitB_f rfl ?_
    exact ⟨by rw [clsT, h]; rfl, rfl⟩
  | true =>
    have hr := refRight_spec l hl hf h
    rw [h] at hc
    (conv => whnf)
    refine CallVC.pureF hc rfl ?_
    (conv => whnf)
    refine splitB_t rfl ?_
    (conv => whnf)
    refine CallVC.pureF hr rfl ?_
    cases h2 : rightL l with
    | false =>
      (conv => whnf)
      refine splitB_t rfl ?_
      exact ⟨by rw [clsT, h, h2]; rfl, rfl⟩
    | true =>
      (conv => whnf)
      refine splitB_f rfl ?_
      exact ⟨by rw [clsT, h, h2]; rfl, rfl⟩

theorem Clauses_spec (l : List Cl) (hl : (l.length : Int) ≤ 9223372036854775807) (hf : ∀ c, c ∈ l → FitsC c) : pureF Try.prog 23 [.p (.list 8 (encCs l))] (.p (.int .i64 (clsT l))) := by
  have hc := Check_spec l hl hf
  refine pureF_of f23_ok fun H => ?_
  cases h : checkL l with
  | false =>
    rw [h] at hc
    (conv => whnf)
    refine CallVC.pureF hc rfl ?_
    (conv => whnf)
    refine splitB_t rfl ?_
    exact ⟨by rw [clsT, h]; rfl, rfl⟩
  | true =>
    have hr := ContainsFuncC_spec l hl (fun a => !rightC a) 42 (by kernel_rfl) fun a ha => wrong_spec a (hf a ha) (checkL_mem l h a ha)
    have hall : (l.any fun a => !rightC a) = !rightL l := by rw [rightL_all, List.not_all_eq_any_not]
    rw [h] at hc
    rw [hall] at hr
    (conv => whnf)
    refine CallVC.pureF hc rfl ?_
    (conv => whnf)
    refine splitB_f rfl ?_
    (conv => whnf)
    refine CallVC.pureF hr rfl ?_
    cases h2 : rightL l with
    | false =>
      (conv => whnf)
      refine splitB_t rfl ?_
      exact ⟨by rw [clsT, h, h2]; rfl, rfl⟩
    | true =>
      (conv => whnf)
      refine splitB_f rfl ?_
      exact ⟨by rw [clsT, h, h2]; rfl, rfl⟩

end Go.Proofs.Ythmlninecfjjgaa.AD

namespace Go.Proofs.Ythmlninecfjjgaa.AD
open Go.Proofs
set_option linter.unusedVariables false
set_option linter.unusedSimpArgs false
set_option maxRecDepth 100000

inductive Li where
  | mk (op : Int) (text : ByteArray) (k : Int) (args : List Li)

theorem Li.ind {motive : Li → Prop} (h : ∀ o t k xs, (∀ a, a ∈ xs → motive a) → motive (.mk o t k xs)) (e : Li) : motive e := by
  match e with
  | .mk o t k xs => exact h o t k xs fun a ha => Li.ind h a
termination_by SizeOf.sizeOf e
decreasing_by
  have := List.sizeOf_lt_of_mem ha
  simp only [Li.mk.sizeOf_spec]
  omega

mutual
def encL : Li → PV
  | .mk o t k xs => .agg [.int .u8 o, .str t, .int .i64 k, .list 4 (encLs xs)]
def encLs : List Li → List PV
  | [] => []
  | a :: r => encL a :: encLs r
end
theorem encLs_map : ∀ l, encLs l = l.map encL
  | [] => rfl
  | a :: r => by rw [encLs, encLs_map r]; rfl
theorem encLs_get {xs : List Li} {i : Nat} {a : Li} (h : xs[i]? = some a) : (encLs xs)[i]? = some (encL a) := by rw [encLs_map, List.getElem?_map, h]; rfl
theorem encLs_len (xs : List Li) : (encLs xs).length = xs.length := by rw [encLs_map, List.length_map]

/-- How large, and how many parts. -/
def lcap (t : ByteArray) (most : Int) : Int := 1 + (if most < t.size then most else t.size)
mutual
def lw : Li → Int → Int
  | .mk _ t _ xs, most => lws xs most (lcap t most)
def lws : List Li → Int → Int → Int
  | [], most, n => n
  | a :: r, most, n => if n ≤ most then lws r most (n + lw a (most - n)) else n
end
mutual
def lcnt : Li → Int
  | .mk _ _ _ xs => 1 + lcnts xs
def lcnts : List Li → Int
  | [] => 0
  | a :: r => lcnt a + lcnts r
end

theorem lws_le : (∀ e most, 0 ≤ most → 1 ≤ lw e most ∧ lw e most ≤ most + 1) ∧ ∀ l most n, 0 ≤ most → 1 ≤ n → n ≤ most + 1 → n ≤ lws l most n ∧ lws l most n ≤ most + 1 := by
  have main : ∀ l, (∀ a, a ∈ l → ∀ most, 0 ≤ most → 1 ≤ lw a most ∧ lw a most ≤ most + 1) → ∀ most n, 0 ≤ most → 1 ≤ n → n ≤ most + 1 → n ≤ lws l most n ∧ lws l most n ≤ most + 1 := by
    intro l
    induction l with
    | nil => intro _ most n _ _ _; simp only [lws]; omega
    | cons a r ih =>
      intro hl most n h0 h1 h2
      simp only [lws]
      split
      · have := hl a (by simp) (most - n) (by omega)
        have := ih (fun b hb => hl b (by simp [hb])) most (n + lw a (most - n)) h0 (by omega) (by omega)
        omega
      · omega
  have one : ∀ e most, 0 ≤ most → 1 ≤ lw e most ∧ lw e most ≤ most + 1 := by
    intro e
    induction e using Li.ind with
    | h o t k xs ih =>
      intro most h0
      simp only [lw]
      have hc : 1 ≤ lcap t most ∧ lcap t most ≤ most + 1 := by simp only [lcap]; split <;> omega
      have := main xs ih most (lcap t most) h0 (by omega) (by omega)
      omega
  exact ⟨one, fun l => main l fun a _ => one a⟩

/-- Nothing in it is larger than can be counted. -/
inductive FitsL : Li → Prop
  | mk (o : Int) (t : ByteArray) (k : Int) (xs : List Li) : 0 ≤ o → -9223372036854775808 ≤ k → k ≤ 9223372036854775807 → (t.size : Int) ≤ 9223372036854775807 → (xs.length : Int) ≤ 9223372036854775807 → (∀ a, a ∈ xs → FitsL a) → FitsL (.mk o t k xs)

/-- No row and no text is long. -/
inductive FewL : Li → Prop
  | mk (o : Int) (t : ByteArray) (k : Int) (xs : List Li) : t.size ≤ 20000 → xs.length ≤ 20000 → (∀ a, a ∈ xs → FewL a) → FewL (.mk o t k xs)

theorem fewL_of (e : Li) : ∀ most : Int, 0 ≤ most → most ≤ 20000 → lw e most ≤ most → FewL e ∧ lcnt e ≤ lw e most := by
  induction e using Li.ind with
  | h o t k xs ih =>
    intro most h0 hm h
    have main : ∀ (l : List Li) (n : Int), (∀ a, a ∈ l → a ∈ xs) → 1 ≤ n → n ≤ most + 1 → lws l most n ≤ most → n + l.length ≤ most ∧ (∀ a, a ∈ l → FewL a) ∧ n + lcnts l ≤ lws l most n := by
      intro l
      induction l with
      | nil => intro n _ _ _ h; simp only [lws] at h; exact ⟨by simpa using h, (fun a ha => by cases ha), by simp [lcnts, lws]⟩
      | cons a r ihr =>
        intro n hl h1 h2 h
        simp only [lws] at h
        split at h
        · rename_i h3
          have h4 := lws_le.1 a (most - n) (by omega)
          have h5 := lws_le.2 r most (n + lw a (most - n)) h0 (by omega) (by omega)
          obtain ⟨g1, g2⟩ := ih a (hl a (by simp)) (most - n) (by omega) (by omega) (by omega)
          obtain ⟨g3, g4, g5⟩ := ihr _ (fun b hb => hl b (by simp [hb])) (by omega) (by omega) h
          refine ⟨by simp; omega, fun b hb => ?_, ?_⟩
          · cases hb with
            | head => exact g1
            | tail _ hb => exact g4 b hb
          · simp only [lcnts, lws, if_pos h3]; omega
        · omega
    simp only [lw] at h
    have hc : 1 ≤ lcap t most ∧ lcap t most ≤ most + 1 := by simp only [lcap]; split <;> omega
    obtain ⟨g1, g2, g3⟩ := main xs (lcap t most) (fun _ h => h) hc.1 hc.2 h
    have ht : t.size ≤ 20000 := by
      have hx := lws_le.2 xs most (lcap t most) h0 hc.1 hc.2
      have h9 : lcap t most ≤ most := by omega
      simp only [lcap] at h9
      split at h9 <;> omega
    refine ⟨.mk o t k xs ht (by omega) g2, ?_⟩
    simp only [lcnt, lw]
    omega

theorem LicWeight_spec (e : Li) : FitsL e → ∀ most : Int, 0 ≤ most → most ≤ 4611686018427387904 → pureF Try.prog 8 [.p (encL e), .p (.int .i64 most)] (.p (.int .i64 (lw e most))) := by
  induction e using Li.ind with
  | h o t k xs ih =>
    intro hf most h1 h2
    cases hf with
    | mk _ _ _ _ ho hk1 hk2 ht hx hxs =>
    have he := encLs_len xs
    have hc : 1 ≤ lcap t most ∧ lcap t most ≤ most + 1 := by simp only [lcap]; split <;> omega
    refine pureF_of f8_ok fun H => ?_
    (conv => whnf)
    rw [IntWalk.i64_in _ (by have := hc; simp only [lcap] at this; exact ⟨by omega, by omega⟩)]
    intro R hR
    have key : ∀ (rest : List Li) (i : Nat) (n : Int), xs.drop i = rest → 1 ≤ n → n ≤ most + 1 → lws rest most n = lw (.mk o t k xs) most → R [(1, .p (.int .i64 most)), (2, .ref (.l 0) 0), (5, .p (.int .i64 n)), (6, .p (.int .i64 i))] H [.cells [.p (.int .u8 o), .p (.str t), .p (.int .i64 k), .p (.list 4 (encLs xs))]] := by
      intro rest
      induction rest with
      | nil =>
        intro i n hd hn hb hs
        have hl := drop_nil hd
        refine hR _ _ _ ?_
        (conv => whnf)
        refine splitB_f (decide_eq_false (by omega)) ?_
        (conv => whnf)
        refine splitB_f rfl ?_
        exact ⟨by rw [← hs]; rfl, rfl⟩
      | cons a r ihr =>
        intro i n hd hn hb hs
        obtain ⟨hg, hd', hi⟩ := drop_cons hd
        have iha := ih a (List.mem_of_getElem? hg) (hxs a (List.mem_of_getElem? hg))
        have hle := lws_le.1 a (most - n)
        refine hR _ _ _ ?_
        (conv => whnf)
        refine splitB_t (decide_eq_true (by omega)) ?_
        (conv => whnf)
        refine splitB_dec (fun h3 => ?_) (fun h3 => ?_)
        · obtain ⟨o', t', k', xs'⟩ := a
          have hle := hle (by omega)
          (conv => whnf)
          refine ⟨rfl, encL (.mk o' t' k' xs'), ⟨by omega, encLs_get hg⟩, ?_⟩
          (conv => whnf)
          rw [IntWalk.i64_in (most - n) (by omega)]
          refine CallVC.pureF (iha (most - n) (by omega) (by omega)) rfl ?_
          (conv => whnf)
          rw [IntWalk.i64_in _ (by omega), IntWalk.i64_in _ (by omega)]
          exact ihr (i + 1) _ hd' (by omega) (by omega) (by rw [← hs]; simp only [lws, if_pos h3])
        · exact ⟨by rw [← hs]; simp only [lws, if_neg h3], rfl⟩
    exact key xs 0 (lcap t most) rfl hc.1 hc.2 rfl

end Go.Proofs.Ythmlninecfjjgaa.AD

namespace Go.Proofs.Ythmlninecfjjgaa.AD
open Go.Proofs
set_option linter.unusedVariables false
set_option linter.unusedSimpArgs false
set_option maxRecDepth 100000

def liCells : Li → List PV
  | .mk o t k xs => [.int .u8 o, .str t, .int .i64 k, .list 4 (encLs xs)]
theorem encL_cells (e : Li) : encL e = .agg (liCells e) := by cases e; rfl

/-- The types that licensees have. -/
structure LiTypes (P : Program) (tE tO tT tK tA : TypeId) : Prop where
  fs : ∃ f0 f1 f2 f3 : Field, P.underlying tE = some (.struct #[f0, f1, f2, f3]) ∧ (f0.type = tO ∧ f0.offset = 0) ∧ (f1.type = tT ∧ f1.offset = 1) ∧ (f2.type = tK ∧ f2.offset = 2) ∧ (f3.type = tA ∧ f3.offset = 3)
  o : P.underlying tO = some (.int .u8)
  t : P.underlying tT = some .string
  k : P.underlying tK = some (.int .i64)
  a : P.underlying tA = some (.slice tE)
  sizes : P.cellsOf tE = 4 ∧ P.cellsOf tO = 1 ∧ P.cellsOf tT = 1 ∧ P.cellsOf tK = 1 ∧ P.cellsOf tA = 1

theorem open_li {P : Program} {tE tO tT tK tA : TypeId} (hT : LiTypes P tE tO tT tK tA) {H : Type} {encH : TypeId × Value → H} {W : World} {base : Nat} {spare : Nat → Bool} {held : Bool} :
    ∀ (fuel : Nat) (cs : List Value) (y : DataW H) (p : List MemPlace), DataW.trod encH P W base spare held fuel tE cs = some (y, p) → ∃ e : Li, FitsL e ∧ CellsIn W cs (liCells e) := by
  intro fuel
  induction fuel using Nat.strongRecOn with
  | _ fuel ih =>
    intro cs y p h
    obtain ⟨f0, f1, f2, f3, hE, ⟨a1, a2⟩, ⟨b1, b2⟩, ⟨c1, c2⟩, d1, d2⟩ := hT.fs
    obtain ⟨s1, s2, s3, s4, s5⟩ := hT.sizes
    obtain ⟨xs, n, rfl, _, hl, hxl, hf⟩ := DataW.trod_struct hE h
    rw [s1] at hl
    have hxl : xs.length = 4 := hxl
    match cs, hl with
    | [u0, u1, u2, u3], _ =>
    have g0 := hf 0 f0 rfl
    have g1 := hf 1 f1 rfl
    have g2 := hf 2 f2 rfl
    have g3 := hf 3 f3 rfl
    rw [a1, a2, s2, List.getElem?_eq_getElem (by omega)] at g0
    rw [b1, b2, s3, List.getElem?_eq_getElem (by omega)] at g1
    rw [c1, c2, s4, List.getElem?_eq_getElem (by omega)] at g2
    rw [d1, d2, s5, List.getElem?_eq_getElem (by omega)] at g3
    obtain ⟨o, ho, _, hw⟩ := DataW.trod_int hT.o g0
    obtain ⟨t, ht, _, hts⟩ := DataW.trod_string hT.t g1
    obtain ⟨k, hk, _, hkw⟩ := DataW.trod_int hT.k g2
    obtain rfl : u0 = .int .u8 o := by simpa using ho
    obtain rfl : u1 = .string t := by simpa using ht
    obtain rfl : u2 = .int .i64 k := by simpa using hk
    have ho0 : 0 ≤ o := by
      simp only [Lit.wf, Bool.and_eq_true, decide_eq_true_eq] at hw
      have h1 := hw.1
      have : IntKind.u8.min = 0 := by decide
      omega
    have hk0 : -9223372036854775808 ≤ k ∧ k ≤ 9223372036854775807 := by
      simp only [Lit.wf, Bool.and_eq_true, decide_eq_true_eq] at hkw
      have h1 : IntKind.i64.min = -9223372036854775808 := by decide
      have h2 : IntKind.i64.max = 9223372036854775807 := by decide
      omega
    have hmax : maxLen ≤ 9223372036854775807 := by decide
    have fin : ∀ ys : List Li, (ys.length : Int) ≤ 9223372036854775807 → (∀ a, a ∈ ys → FitsL a) → VP (fun _ => False) W u3 (.list 4 (encLs ys)) → u3.oneCell' = true → ∃ e : Li, FitsL e ∧ CellsIn W [.int .u8 o, .string t, .int .i64 k, u3] (liCells e) := fun ys h1 h2 h3 h4 => by
      refine ⟨.mk o t k ys, .mk o t k ys ho0 hk0.1 hk0.2 (by omega) h1 h2, rfl, fun j x q hx hq => ?_⟩
      match j, hx, hq with
      | 0, hx, hq => cases hx; cases hq; exact ⟨.int _ _, rfl⟩
      | 1, hx, hq => cases hx; cases hq; exact ⟨.str _, rfl⟩
      | 2, hx, hq => cases hx; cases hq; exact ⟨.int _ _, rfl⟩
      | 3, hx, hq => cases hx; cases hq; exact ⟨h3, h4⟩
    rcases DataW.trod_slice hT.a g3 with ⟨hs, _⟩ | ⟨a, len, cap, elems, rest, m, rfl, hs, _, _, hlc, hcm, hel, hr, _⟩
    · obtain rfl : u3 = .slice none 0 0 := by simpa using hs
      exact fin [] (by simp) (fun a ha => by cases ha) (.list0 4 _ _ fun _ => rfl) rfl
    · obtain rfl : u3 = .slice (some a) len cap := by simpa using hs
      rw [s1] at hr
      obtain ⟨ys, hyl, hy, hv⟩ := row_in (W := W) (base := base) (a := a) (len := len) (cap := cap) (sz := 4) liCells FitsL (fun x => by cases x; rfl) (by omega) hlc fun i hi => by
        have h1 := hr i hi
        rw [List.getElem?_eq_getElem (by omega)] at h1
        obtain ⟨c, hc1, hc2⟩ := Option.bind_eq_some_iff.1 h1
        obtain ⟨e, he1, he2⟩ := ih m (by omega) c _ _ hc2
        exact ⟨c, e, hc1, he2, he1⟩
      have e1 : (ys.map fun x => PV.agg (liCells x)) = encLs ys := by
        rw [encLs_map]
        exact List.map_congr_left fun x _ => (encL_cells x).symm
      rw [e1] at hv
      exact fin ys (by omega) hy hv rfl

end Go.Proofs.Ythmlninecfjjgaa.AD

namespace Go.Proofs.Ythmlninecfjjgaa.AD
open Go.Proofs
set_option linter.unusedVariables false
set_option linter.unusedSimpArgs false
set_option maxRecDepth 100000

def clCells : Cl → List PV
  | .mk k (.mk o t xs) (.mk o2 t2 xs2) b => [.int .u8 k, .int .u8 o, .str t, .list 3 (encs xs), .int .u8 o2, .str t2, .list 3 (encs xs2), .list 8 (encCs b)]
theorem encC_cells (c : Cl) : encC c = .agg (clCells c) := by
  obtain ⟨k, ⟨o, t, xs⟩, ⟨o2, t2, xs2⟩, b⟩ := c
  rfl

structure ClTypes (P : Program) (tC tK tE tB : TypeId) : Prop where
  fs : ∃ f0 f1 f2 f3 : Field, P.underlying tC = some (.struct #[f0, f1, f2, f3]) ∧ (f0.type = tK ∧ f0.offset = 0) ∧ (f1.type = tE ∧ f1.offset = 1) ∧ (f2.type = tE ∧ f2.offset = 4) ∧ (f3.type = tB ∧ f3.offset = 7)
  k : P.underlying tK = some (.int .u8)
  b : P.underlying tB = some (.slice tC)
  sizes : P.cellsOf tC = 8 ∧ P.cellsOf tK = 1 ∧ P.cellsOf tE = 3 ∧ P.cellsOf tB = 1

theorem open_cls_of {P : Program} {tC tK tE tB : TypeId} (hC : ClTypes P tC tK tE tB) {H : Type} {encH : TypeId × Value → H} {W : World} {base : Nat} {spare : Nat → Bool} {held : Bool} (fuel : Nat)
    (ih : ∀ m, m < fuel → ∀ (cs : List Value) (y : DataW H) (p : List MemPlace), DataW.trod encH P W base spare held m tC cs = some (y, p) → ∃ c : Cl, FitsC c ∧ CellsIn W cs (clCells c)) (u : Value) (y : DataW H) (p : List MemPlace) (g : DataW.trod encH P W base spare held fuel tB [u] = some (y, p)) :
    ∃ l : List Cl, (l.length : Int) ≤ 9223372036854775807 ∧ (∀ a, a ∈ l → FitsC a) ∧ VP (fun _ => False) W u (.list 8 (encCs l)) ∧ u.oneCell' = true := by
  obtain ⟨s1, s2, s3, s4⟩ := hC.sizes
  have hmax : maxLen ≤ 9223372036854775807 := by decide
  rcases DataW.trod_slice hC.b g with ⟨hs, _⟩ | ⟨a, len, cap, elems, rest, m, rfl, hs, _, _, hlc, hcm, hel, hr, _⟩
  · obtain rfl : u = .slice none 0 0 := by simpa using hs
    exact ⟨[], by simp, (fun a ha => by cases ha), .list0 8 _ _ fun _ => rfl, rfl⟩
  · obtain rfl : u = .slice (some a) len cap := by simpa using hs
    rw [s1] at hr
    obtain ⟨ys, hyl, hy, hv⟩ := row_in (W := W) (base := base) (a := a) (len := len) (cap := cap) (sz := 8) clCells FitsC (fun x => by obtain ⟨k, ⟨o, t, xs⟩, ⟨o2, t2, xs2⟩, b⟩ := x; rfl) (by omega) hlc fun i hi => by
      have h1 := hr i hi
      rw [List.getElem?_eq_getElem (by omega)] at h1
      obtain ⟨c, hc1, hc2⟩ := Option.bind_eq_some_iff.1 h1
      obtain ⟨e, he1, he2⟩ := ih m (by omega) c _ _ hc2
      exact ⟨c, e, hc1, he2, he1⟩
    have e1 : (ys.map fun x => PV.agg (clCells x)) = encCs ys := by
      rw [encCs_map]
      exact List.map_congr_left fun x _ => (encC_cells x).symm
    rw [e1] at hv
    exact ⟨ys, by omega, hy, hv, rfl⟩

theorem open_cl {P : Program} {tC tK tE tB tO tT tA : TypeId} (hC : ClTypes P tC tK tE tB) (hT : ExTypes P tE tO tT tA) {H : Type} {encH : TypeId × Value → H} {W : World} {base : Nat} {spare : Nat → Bool} {held : Bool} :
    ∀ (fuel : Nat) (cs : List Value) (y : DataW H) (p : List MemPlace), DataW.trod encH P W base spare held fuel tC cs = some (y, p) → ∃ c : Cl, FitsC c ∧ CellsIn W cs (clCells c) := by
  intro fuel
  induction fuel using Nat.strongRecOn with
  | _ fuel ih =>
    intro cs y p h
    obtain ⟨f0, f1, f2, f3, hE, ⟨a1, a2⟩, ⟨b1, b2⟩, ⟨c1, c2⟩, d1, d2⟩ := hC.fs
    obtain ⟨s1, s2, s3, s4⟩ := hC.sizes
    obtain ⟨xs, n, rfl, _, hl, hxl, hf⟩ := DataW.trod_struct hE h
    rw [s1] at hl
    have hxl : xs.length = 4 := hxl
    match cs, hl with
    | [u0, u1, u2, u3, u4, u5, u6, u7], _ =>
    have g0 := hf 0 f0 rfl
    have g1 := hf 1 f1 rfl
    have g2 := hf 2 f2 rfl
    have g3 := hf 3 f3 rfl
    rw [a1, a2, s2, List.getElem?_eq_getElem (by omega)] at g0
    rw [b1, b2, s3, List.getElem?_eq_getElem (by omega)] at g1
    rw [c1, c2, s3, List.getElem?_eq_getElem (by omega)] at g2
    rw [d1, d2, s4, List.getElem?_eq_getElem (by omega)] at g3
    obtain ⟨k, hk, _, hw⟩ := DataW.trod_int hC.k g0
    obtain rfl : u0 = .int .u8 k := by simpa using hk
    have hk0 : 0 ≤ k := by
      simp only [Lit.wf, Bool.and_eq_true, decide_eq_true_eq] at hw
      have h1 := hw.1
      have : IntKind.u8.min = 0 := by decide
      omega
    obtain ⟨⟨o, t, xs1⟩, e1, e2⟩ := open_ex hT _ _ _ _ g1
    obtain ⟨⟨o2, t2, xs2⟩, e3, e4⟩ := open_ex hT _ _ _ _ g2
    obtain ⟨b, b3, b4, b5, b6⟩ := open_cls_of hC n (fun m hm => ih m (by omega)) u7 _ _ g3
    refine ⟨.mk k (.mk o t xs1) (.mk o2 t2 xs2) b, .mk _ _ _ _ hk0 e1 e3 b3 b4, rfl, fun j x q hx hq => ?_⟩
    match j, hx, hq with
    | 0, hx, hq => cases hx; cases hq; exact ⟨.int _ _, rfl⟩
    | 1, hx, hq => exact e2.2 0 x q hx hq
    | 2, hx, hq => exact e2.2 1 x q hx hq
    | 3, hx, hq => exact e2.2 2 x q hx hq
    | 4, hx, hq => exact e4.2 0 x q hx hq
    | 5, hx, hq => exact e4.2 1 x q hx hq
    | 6, hx, hq => exact e4.2 2 x q hx hq
    | 7, hx, hq => cases hx; cases hq; exact ⟨b5, b6⟩

theorem open_cls {P : Program} {tC tK tE tB tO tT tA : TypeId} (hC : ClTypes P tC tK tE tB) (hT : ExTypes P tE tO tT tA) {H : Type} {encH : TypeId × Value → H} {W : World} {base : Nat} {spare : Nat → Bool} {held : Bool} (fuel : Nat) (u : Value) (y : DataW H) (p : List MemPlace) (g : DataW.trod encH P W base spare held fuel tB [u] = some (y, p)) :
    ∃ l : List Cl, (l.length : Int) ≤ 9223372036854775807 ∧ (∀ a, a ∈ l → FitsC a) ∧ VP (fun _ => False) W u (.list 8 (encCs l)) := by
  obtain ⟨l, h1, h2, h3, _⟩ := open_cls_of hC fuel (fun m _ cs y p h => open_cl hC hT m cs y p h) u y p g
  exact ⟨l, h1, h2, h3⟩

end Go.Proofs.Ythmlninecfjjgaa.AD

namespace Go.Proofs.Ythmlninecfjjgaa.AD
open Go.Proofs Go.ChangeShapes Go.WideShapes Go.ChangeAt Go.RowKit

theorem okWide_agg {P : Program} {W : World} {r : Reach} {base : Nat} {t : TypeId} {v : Value} {fs : Array Field} (ht : P.underlying t = some (.struct fs)) (h : Value.okWide P W r base t v) : ∃ cs, v = .agg cs := by
  unfold Value.okWide at h
  rw [ht] at h
  obtain ⟨cs, rfl, _⟩ := h
  exact ⟨cs, rfl⟩

theorem stays_none (W : World) : Stays (fun _ => False) W (blocks []) W := ⟨Nat.le_refl _, fun b _ _ => ⟨fun ⟨i, m, h, _⟩ => by simp at h, rfl⟩⟩

theorem inv_none (W : World) : Inv [] W [] [] := ⟨rfl, fun i j m m' b h => by simp at h, fun i o h => by simp at h, fun k o h => by simp at h⟩

theorem below_of {W W' : World} {μ' : List MI} (h : Le [] W μ' W') : Below W.heap.size W W' :=
  ⟨h.os, h.tape, h.output, h.stays.1, fun k hk => (h.stays.2 k hk fun ⟨i, m, h, _⟩ => by simp at h).2⟩

/-- A call that answers true, seen from outside. -/
theorem true_calls {P : Program} {f : Nat} {ps : List PV} (h : pureF P f (ps.map AV.p) (.p (.bool true))) {W : World} {xs : Array Value} (hl : xs.size = ps.length) (hx : ∀ (j : Nat) (x : Value) (p : PV), xs[j]? = some x → ps[j]? = some p → VP (fun _ => False) W x p) :
    Calls P f xs W fun e W' => e = .returned (.bool true) ∧ Below W.heap.size W W' := by
  refine (h [] [] W xs (inv_none W) ⟨by simpa using hl, fun j x a hj ha => ?_⟩).mono fun e W' hw => ?_
  · rw [List.getElem?_map] at ha
    obtain ⟨p, hp, rfl⟩ := Option.map_eq_some_iff.1 ha
    exact .p _ _ ((hx j x p hj hp).mono (stays_none W))
  · obtain ⟨v, r, H', μ', rfl, ⟨rfl, rfl⟩, _, hv, hle⟩ := hw
    rw [hv.bool_inv]
    exact ⟨rfl, below_of hle⟩

theorem exTypes : ExTypes Try.prog 65 5 9 63 := ⟨⟨_, _, _, Try.underlying65, ⟨rfl, rfl⟩, ⟨rfl, rfl⟩, rfl, rfl⟩, by kernel_rfl, by kernel_rfl, by kernel_rfl, by kernel_rfl, by kernel_rfl, by kernel_rfl, by kernel_rfl⟩

theorem clTypes : ClTypes Try.prog 67 5 65 39 := ⟨⟨_, _, _, _, Try.underlying67, ⟨rfl, rfl⟩, ⟨rfl, rfl⟩, ⟨rfl, rfl⟩, rfl, rfl⟩, by kernel_rfl, by kernel_rfl, by kernel_rfl, by kernel_rfl, by kernel_rfl, by kernel_rfl⟩

theorem liTypes : LiTypes Try.prog 24 5 9 3 22 := ⟨⟨_, _, _, _, Try.underlying24, ⟨rfl, rfl⟩, ⟨rfl, rfl⟩, ⟨rfl, rfl⟩, rfl, rfl⟩, by kernel_rfl, by kernel_rfl, by kernel_rfl, by kernel_rfl, by kernel_rfl, by kernel_rfl, by kernel_rfl, by kernel_rfl, by kernel_rfl⟩

end Go.Proofs.Ythmlninecfjjgaa.AD

namespace Go.Proofs.Ythmlninecfjjgaa.AD
open Go.Proofs
set_option linter.unusedVariables false
set_option linter.unusedSimpArgs false
set_option maxRecDepth 100000

def markL : PV := .agg [.int .u8 77, .str ⟨#[]⟩, .int .i64 0, .nils]
mutual
def encTL : Li → PV
  | .mk o t k xs => .agg [.int .u8 o, .str t, .int .i64 k, .lent 4 (encTLs xs) [markL]]
def encTLs : List Li → List PV
  | [] => []
  | a :: r => encTL a :: encTLs r
end
theorem encTLs_map : ∀ l, encTLs l = l.map encTL
  | [] => rfl
  | a :: r => by rw [encTLs, encTLs_map r]; rfl
theorem encTLs_len (xs : List Li) : (encTLs xs).length = xs.length := by rw [encTLs_map, List.length_map]
theorem encTLs_get {xs : List Li} {i : Nat} {a : Li} (h : xs[i]? = some a) : (encTLs xs)[i]? = some (encTL a) := by rw [encTLs_map, List.getElem?_map, h]; rfl
theorem encTLs_take {xs : List Li} {k : Nat} {a : Li} (h : xs[k]? = some a) : encTLs (xs.take (k + 1)) = encTLs (xs.take k) ++ [encTL a] := by
  rw [encTLs_map, encTLs_map, ← List.take_append_getElem (get_lt h), List.map_append]
  simp [(List.getElem?_eq_some_iff.1 h).2]
theorem encTLs_cut (xs : List Li) (k : Nat) : (encTLs (xs.take k)).take k = encTLs (xs.take k) := by
  apply List.take_of_length_le
  rw [encTLs_len, List.length_take]
  omega
theorem encTL_le (e : Li) : (encTL e).le (encL e) := by
  induction e using Li.ind with
  | h o t k xs ih =>
    have main : ∀ l : List Li, (∀ a, a ∈ l → (encTL a).le (encL a)) → PV.les (encTLs l) (encLs l) := by
      intro l
      induction l with
      | nil => intro _; exact .nil
      | cons a r ihr => intro h; exact .cons _ _ _ _ (h a (by simp)) (ihr fun b hb => h b (by simp [hb]))
    exact .agg (.cons _ _ _ _ (.refl _) (.cons _ _ _ _ (.refl _) (.cons _ _ _ _ (.refl _) (.cons _ _ _ _ (.lent (main xs ih)) .nil))))

theorem LentLic_spec (e : Li) : FewL e → pureF Try.prog 10 [.p (encL e)] (.p (encTL e)) := by
  induction e using Li.ind with
  | h o t kk xs ih =>
    intro hfew
    cases hfew with
    | mk _ _ _ _ ht hx hxs =>
    have he := encLs_len xs
    refine pureF_of f10_ok fun H => ?_
    (conv => whnf)
    intro R hR
    have key : ∀ (rest : List Li) (k : Nat), xs.drop (k + 1) = rest → k < xs.length → R [(1, .ref (.l 0) 0), (2, .ref (.l 1) 0), (3, .ref (.l 2) 0), (4, .p (.int .i64 (k + 1 : Nat)))] H
        [.cells [.p (.int .u8 o), .p (.str t), .p (.int .i64 kk), .p (.list 4 (encLs xs))], .cells [.p (.int .u8 0), .p (.str ⟨#[]⟩), .p (.int .i64 0), .p .nils], .cells [.p (.int .u8 o), .p (.str t), .p (.int .i64 kk), .view (.l 3) k 4 (k + 1)], .buf k 4 (encTLs (xs.take (k + 1)))] := by
      intro rest
      induction rest with
      | nil =>
        intro k hd hk
        have hl := drop_nil hd
        have hk1 : k + 1 = xs.length := by omega
        refine hR _ _ _ ?_
        (conv => whnf)
        refine splitB_f (decide_eq_false (by omega)) ?_
        (conv => whnf)
        refine ⟨rfl, ?_⟩
        (conv => whnf)
        refine ⟨⟨rfl, rfl, rfl, by rw [encTLs_len, List.length_take]; omega⟩, by simp [room]; omega, encTLs xs ++ [markL], by rw [encTLs_cut, hk1, List.take_length]; rfl, ?_⟩
        (conv => whnf)
        refine ⟨rfl, ?_⟩
        (conv => whnf)
        refine ⟨⟨by omega, by rw [he]; simp; omega⟩, ?_⟩
        (conv => whnf)
        refine ⟨⟨rfl, rfl⟩, .inr ⟨encTLs xs, [markL], ⟨by omega, by simp⟩, rfl, by rw [encTLs_len]; simp [he], ?_⟩⟩
        exact ⟨rfl, rfl⟩
      | cons a r ihr =>
        intro k hd hk
        obtain ⟨hg, hd', hi⟩ := drop_cons hd
        have iha := ih a (List.mem_of_getElem? hg) (hxs a (List.mem_of_getElem? hg))
        refine hR _ _ _ ?_
        (conv => whnf)
        refine splitB_t (decide_eq_true (by omega)) ?_
        (conv => whnf)
        obtain ⟨o', t', k', xs'⟩ := a
        refine ⟨rfl, encL (.mk o' t' k' xs'), ⟨by omega, encLs_get hg⟩, ?_⟩
        (conv => whnf)
        refine CallD.pureF iha rfl ?_
        (conv => whnf)
        refine ⟨rfl, ?_⟩
        (conv => whnf)
        refine ⟨⟨rfl, rfl, rfl, by rw [encTLs_len, List.length_take]; omega⟩, by simp [room]; omega, encTLs (xs.take (k + 1 + 1)), by rw [encTLs_cut, encTLs_take hg], ?_⟩
        (conv => whnf)
        rw [IntWalk.i64_in _ (by omega)]
        exact ihr (k + 1) hd' hi
    cases xs with
    | nil =>
      refine hR _ _ _ ?_
      (conv => whnf)
      refine splitB_f rfl ?_
      (conv => whnf)
      refine ⟨rfl, ?_⟩
      (conv => whnf)
      refine ⟨by simp [room], ?_⟩
      (conv => whnf)
      refine ⟨rfl, ?_⟩
      (conv => whnf)
      refine ⟨⟨by omega, by decide⟩, ?_⟩
      (conv => whnf)
      refine ⟨⟨rfl, rfl⟩, .inr ⟨[], [markL], ⟨by omega, by decide⟩, rfl, rfl, ?_⟩⟩
      exact ⟨rfl, rfl⟩
    | cons a r =>
      have iha := ih a (by simp) (hxs a (by simp))
      refine hR _ _ _ ?_
      (conv => whnf)
      refine splitB_t (decide_eq_true (by rw [he]; simp)) ?_
      (conv => whnf)
      obtain ⟨o', t', k', xs'⟩ := a
      refine ⟨rfl, encL (.mk o' t' k' xs'), ⟨by omega, rfl⟩, ?_⟩
      (conv => whnf)
      refine CallD.pureF iha rfl ?_
      (conv => whnf)
      refine ⟨rfl, ?_⟩
      (conv => whnf)
      refine ⟨by simp [room], ?_⟩
      (conv => whnf)
      exact key r 0 rfl (by simp)

theorem KeptLic_spec (e : Li) : FewL e → pureF Try.prog 15 [.p (encTL e), .p (encL e)] (.p (.bool true)) := by
  induction e using Li.ind with
  | h o t kk xs ih =>
    intro hfew
    cases hfew with
    | mk _ _ _ _ ht hx hxs =>
    have he := encLs_len xs
    have heT := encTLs_len xs
    refine pureF_of f15_ok fun H => ?_
    (conv => whnf)
    refine splitB_f (by simp) ?_
    (conv => whnf)
    refine splitB_f (by simp) ?_
    (conv => whnf)
    refine splitB_f (by simp) ?_
    (conv => whnf)
    refine splitB_f (by rw [he, heT]; simp) ?_
    (conv => whnf)
    rw [IntWalk.i64_in _ (by omega)]
    refine ⟨rfl, ⟨by omega, by rw [List.length_append, heT, he]; simp⟩, ?_⟩
    (conv => whnf)
    refine ⟨rfl, markL, ⟨by omega, ?_⟩, ?_⟩
    · rw [List.take_of_length_le (by rw [List.length_append, heT, he]; simp)]
      rw [List.getElem?_append_right (by rw [heT, he]; simp)]
      simp [heT, he]
    (conv => whnf)
    refine splitB_f rfl ?_
    (conv => whnf)
    intro R hR
    have key : ∀ (rest : List Li) (i : Nat), xs.drop i = rest → R [(2, .ref (.l 0) 0), (3, .ref (.l 1) 0), (5, .p (.int .i64 (encLs xs).length)), (6, .p (.int .i64 i))] H
        [.cells [.p (.int .u8 o), .p (.str t), .p (.int .i64 kk), .p (.lent 4 (encTLs xs) [markL])], .cells [.p (.int .u8 o), .p (.str t), .p (.int .i64 kk), .p (.list 4 (encLs xs))]] := by
      intro rest
      induction rest with
      | nil =>
        intro i hd
        have hl := drop_nil hd
        refine hR _ _ _ ?_
        (conv => whnf)
        refine splitB_f (decide_eq_false (by omega)) ?_
        exact ⟨rfl, rfl⟩
      | cons a r ihr =>
        intro i hd
        obtain ⟨hg, hd', hi⟩ := drop_cons hd
        have iha := ih a (List.mem_of_getElem? hg) (hxs a (List.mem_of_getElem? hg))
        refine hR _ _ _ ?_
        (conv => whnf)
        refine splitB_t (decide_eq_true (by omega)) ?_
        (conv => whnf)
        obtain ⟨o', t', k', xs'⟩ := a
        refine ⟨rfl, encTL (.mk o' t' k' xs'), ⟨by omega, encTLs_get hg⟩, ?_⟩
        (conv => whnf)
        refine ⟨rfl, encL (.mk o' t' k' xs'), ⟨by omega, encLs_get hg⟩, ?_⟩
        (conv => whnf)
        refine CallD.pureF iha rfl ?_
        (conv => whnf)
        refine splitB_f rfl ?_
        (conv => whnf)
        rw [IntWalk.i64_in _ (by omega)]
        exact ihr (i + 1) hd'
    exact key xs 0 rfl

/-! ### may they be -/
mutual
def chkLi : Li → Bool
  | .mk o t k xs => if o = 1 then decide (k = 0) && decide (xs.length = 0) else ((if o = 2 ∨ o = 3 then decide (k = 0) && decide (xs.length = 2) else if o = 4 then decide (1 ≤ k) && decide (k ≤ xs.length) else false) && (t.toList == (⟨#[]⟩ : ByteArray).toList)) && chkLs xs
def chkLs : List Li → Bool
  | [] => true
  | a :: r => chkLi a && chkLs r
end
theorem chkLs_all : ∀ l, chkLs l = l.all chkLi
  | [] => rfl
  | a :: r => by rw [chkLs, chkLs_all r]; rfl
theorem IndexFuncL_spec (xs : List Li) (hx : (xs.length : Int) ≤ 9223372036854775807) (p : Li → Bool) (f : Nat) (hf : enters Try.prog f = true) (hp : ∀ a, a ∈ xs → pureF Try.prog f [.p (encL a)] (.p (.bool (p a)))) :
    pureF Try.prog 62 [.p (.list 4 (encLs xs)), .p (.fn (.func f))] (.p (.int .i64 (idxF p xs))) := by
  refine pureF_of f62_ok fun H => ?_
  (conv => whnf)
  intro R hR
  have he := encLs_len xs
  have key : ∀ (rest : List Li) (i : Nat), xs.drop i = rest → idxF p xs = (if idxF p rest = -1 then -1 else idxF p rest + i) → R [(0, .p (.list 4 (encLs xs))), (1, .p (.fn (.func f))), (7, .p (.int .i64 (encLs xs).length)), (8, .p (.int .i64 i))] H [] := by
    intro rest
    induction rest with
    | nil =>
      intro i hd hq
      have hl := drop_nil hd
      refine hR _ _ _ ?_
      (conv => whnf)
      refine splitB_f (decide_eq_false (by omega)) ?_
      exact ⟨by rw [hq]; rfl, rfl⟩
    | cons a r ih =>
      intro i hd hq
      obtain ⟨hg, hd', hi⟩ := drop_cons hd
      have hpa := hp a (List.mem_of_getElem? hg)
      refine hR _ _ _ ?_
      (conv => whnf)
      refine splitB_t (decide_eq_true (by omega)) ?_
      (conv => whnf)
      obtain ⟨o', t', k', xs'⟩ := a
      refine ⟨rfl, encL (.mk o' t' k' xs'), ⟨by omega, encLs_get hg⟩, ?_⟩
      (conv => whnf)
      refine ⟨hf, ?_⟩
      refine CallVC.pureF hpa rfl ?_
      (conv => whnf)
      refine splitB_intro (fun h => ?_) (fun h => ?_)
      · exact ⟨by rw [hq]; simp [idxF, h], rfl⟩
      · (conv => whnf)
        rw [IntWalk.i64_in _ (by omega)]
        refine ih (i + 1) hd' ?_
        rw [hq]
        simp only [idxF, h, Bool.false_eq_true, if_false]
        have := idxF_ge p r
        by_cases h3 : idxF p r = -1
        · rw [if_pos h3, if_pos rfl, if_pos h3]
        · rw [if_neg h3, if_neg (by omega), if_neg h3]; push_cast; omega
  refine key xs 0 rfl ?_
  by_cases h3 : idxF p xs = -1
  · rw [if_pos h3]; exact h3
  · rw [if_neg h3]; simp

theorem ContainsFuncL_spec (xs : List Li) (hx : (xs.length : Int) ≤ 9223372036854775807) (p : Li → Bool) (f : Nat) (hf : enters Try.prog f = true) (hp : ∀ a, a ∈ xs → pureF Try.prog f [.p (encL a)] (.p (.bool (p a)))) :
    pureF Try.prog 43 [.p (.list 4 (encLs xs)), .p (.fn (.func f))] (.p (.bool (xs.any p))) := by
  refine pureF_of f43_ok fun H => ?_
  (conv => whnf)
  refine CallVC.pureF (IndexFuncL_spec xs hx p f hf hp) rfl ?_
  exact ⟨by rw [← idxF_any], rfl⟩

theorem licsCheck_spec (e : Li) : FitsL e → pureF Try.prog 24 [.p (encL e)] (.p (.int .i64 (errT (chkLi e)))) := by
  induction e using Li.ind with
  | h o t k xs ih =>
    intro hfit
    cases hfit with
    | mk _ _ _ _ ho hk1 hk2 ht hx hxs =>
    have he := encLs_len xs
    have hany : pureF Try.prog 43 [.p (.list 4 (encLs xs)), .p (.fn (.func 44))] (.p (.bool (xs.any fun a => !chkLi a))) :=
      ContainsFuncL_spec xs hx (fun a => !chkLi a) 44 (by kernel_rfl) fun a ha => by
        have h := ih a ha (hxs a ha)
        refine pureF_of f44_ok fun H => ?_
        obtain ⟨o', t', k', xs'⟩ := a
        (conv => whnf)
        refine CallVC.pureF h rfl ?_
        refine ⟨?_, rfl⟩
        cases chkLi (.mk o' t' k' xs') <;> rfl
    have hall : (xs.any fun a => !chkLi a) = !chkLs xs := by rw [chkLs_all, List.not_all_eq_any_not]
    rw [hall] at hany
    have hdef : chkLi (.mk o t k xs) = (if o = 1 then decide (k = 0) && decide (xs.length = 0) else ((if o = 2 ∨ o = 3 then decide (k = 0) && decide (xs.length = 2) else if o = 4 then decide (1 ≤ k) && decide (k ≤ xs.length) else false) && (t.toList == (⟨#[]⟩ : ByteArray).toList)) && chkLs xs) := rfl
    have bad : chkLi (.mk o t k xs) = false → errT (chkLi (.mk o t k xs)) = 151 := fun h => by rw [h]; rfl
    have good : chkLi (.mk o t k xs) = true → errT (chkLi (.mk o t k xs)) = 0 := fun h => by rw [h]; rfl
    refine pureF_of f24_ok fun H => ?_
    rcases (show o = 1 ∨ o = 2 ∨ o = 3 ∨ o = 4 ∨ (o ≠ 1 ∧ o ≠ 2 ∧ o ≠ 3 ∧ o ≠ 4) by omega) with rfl | rfl | rfl | rfl | ⟨n1, n2, n3, n4⟩
    all_goals repeat' ((conv => whnf); first | refine CallVC.pureF hany rfl ?_ | refine splitB_t rfl ?_ | refine splitB_f rfl ?_ | refine splitB_f (beq_eq_false_iff_ne.2 n1) ?_ | refine splitB_f (beq_eq_false_iff_ne.2 n2) ?_ | refine splitB_f (beq_eq_false_iff_ne.2 n3) ?_ | refine splitB_f (beq_eq_false_iff_ne.2 n4) ?_ | (first | refine splitB_t rfl ?_ | refine splitB_f rfl ?_ | refine splitB_dec (fun h => ?_) (fun h => ?_) | refine splitB_eq (fun h => ?_) (fun h => ?_) | refine splitB_ne (fun h => ?_) (fun h => ?_) | refine splitB_intro (fun h => ?_) (fun h => ?_)))
    all_goals (try (conv => whnf))
    all_goals clear ih hxs
    all_goals first
      | exact ⟨congrArg (fun n => AV.p (PV.int .i64 n)) (bad (by rw [hdef]; simp_all <;> (intros; omega))).symm, rfl⟩
      | exact ⟨congrArg (fun n => AV.p (PV.int .i64 n)) (good (by rw [hdef]; simp_all <;> (intros; omega))).symm, rfl⟩

theorem refLicCheck_spec (e : Li) : FitsL e → pureF Try.prog 26 [.p (encL e)] (.p (.int .i64 (errT (chkLi e)))) := by
  induction e using Li.ind with
  | h o t k xs ih =>
    intro hfit
    cases hfit with
    | mk _ _ _ _ ho hk1 hk2 ht hx hxs =>
    have he := encLs_len xs
    have hdef : chkLi (.mk o t k xs) = (if o = 1 then decide (k = 0) && decide (xs.length = 0) else ((if o = 2 ∨ o = 3 then decide (k = 0) && decide (xs.length = 2) else if o = 4 then decide (1 ≤ k) && decide (k ≤ xs.length) else false) && (t.toList == (⟨#[]⟩ : ByteArray).toList)) && chkLs xs) := rfl
    have bad : chkLi (.mk o t k xs) = false → errT (chkLi (.mk o t k xs)) = 151 := fun h => by rw [h]; rfl
    have good : chkLi (.mk o t k xs) = true → errT (chkLi (.mk o t k xs)) = 0 := fun h => by rw [h]; rfl
    refine pureF_of f26_ok fun H => ?_
    have last : ∀ b : Bool, (chkLi (.mk o t k xs) = (b && chkLs xs)) → W Try.prog f26.c36 [(1, .ref (.l 0) 0), (3, .p (.bool b)), (4, .p (.int .i64 (encLs xs).length))] H [.cells [.p (.int .u8 o), .p (.str t), .p (.int .i64 k), .p (.list 4 (encLs xs))]] (endQ f26 fun r' H' => r' = .p (.int .i64 (errT (chkLi (.mk o t k xs)))) ∧ H' = H) := by
      intro b hb
      cases b with
      | false =>
        (conv => whnf)
        refine splitB_t rfl ?_
        exact ⟨by rw [hb]; rfl, rfl⟩
      | true =>
        rw [Bool.true_and] at hb
        (conv => whnf)
        refine splitB_f rfl ?_
        (conv => whnf)
        intro R hR
        have key : ∀ (rest : List Li) (i : Nat), xs.drop i = rest → chkLs xs = chkLs rest → R [(1, .ref (.l 0) 0), (4, .p (.int .i64 (encLs xs).length)), (5, .p (.int .i64 i))] H [.cells [.p (.int .u8 o), .p (.str t), .p (.int .i64 k), .p (.list 4 (encLs xs))]] := by
          intro rest
          induction rest with
          | nil =>
            intro i hd hq
            have hl := drop_nil hd
            refine hR _ _ _ ?_
            (conv => whnf)
            refine splitB_f (decide_eq_false (by omega)) ?_
            exact ⟨by rw [hb, hq]; rfl, rfl⟩
          | cons a r ihr =>
            intro i hd hq
            obtain ⟨hg, hd', hi⟩ := drop_cons hd
            have iha := ih a (List.mem_of_getElem? hg) (hxs a (List.mem_of_getElem? hg))
            rw [chkLs] at hq
            refine hR _ _ _ ?_
            (conv => whnf)
            refine splitB_t (decide_eq_true (by omega)) ?_
            (conv => whnf)
            obtain ⟨o', t', k', xs'⟩ := a
            refine ⟨rfl, encL (.mk o' t' k' xs'), ⟨by omega, encLs_get hg⟩, ?_⟩
            (conv => whnf)
            refine CallVC.pureF iha rfl ?_
            cases hc : chkLi (.mk o' t' k' xs') with
            | false =>
              (conv => whnf)
              refine splitB_t rfl ?_
              exact ⟨by rw [hb, hq, hc]; rfl, rfl⟩
            | true =>
              (conv => whnf)
              refine splitB_f rfl ?_
              (conv => whnf)
              rw [IntWalk.i64_in _ (by omega)]
              exact ihr (i + 1) hd' (by rw [hq, hc]; rfl)
        exact key xs 0 rfl rfl
    have hb0 : (((encLs xs).length : Int) == 0) = decide (xs.length = 0) := by rw [he, Bool.eq_iff_iff]; simp
    have hb2 : (((encLs xs).length : Int) == 2) = decide (xs.length = 2) := by rw [he, Bool.eq_iff_iff]; simp; omega
    have lnil : xs.length = 0 → chkLs xs = true := fun h => by rw [List.length_eq_zero_iff.1 h]; rfl
    rcases (show o = 1 ∨ o = 2 ∨ o = 3 ∨ o = 4 ∨ (o ≠ 1 ∧ o ≠ 2 ∧ o ≠ 3 ∧ o ≠ 4) by omega) with rfl | rfl | rfl | rfl | ⟨n1, n2, n3, n4⟩
    all_goals repeat' ((conv => whnf); first | refine splitB_t rfl ?_ | refine splitB_f rfl ?_ | refine splitB_f (beq_eq_false_iff_ne.2 n1) ?_ | refine splitB_f (beq_eq_false_iff_ne.2 n2) ?_ | refine splitB_f (beq_eq_false_iff_ne.2 n3) ?_ | refine splitB_f (beq_eq_false_iff_ne.2 n4) ?_ | refine splitB_eq (fun h => ?_) (fun h => ?_) | refine splitB_dec (fun h => ?_) (fun h => ?_))
    all_goals (try (conv => whnf))
    all_goals first
      | exact ⟨congrArg (fun n => AV.p (PV.int .i64 n)) (bad (by rw [hdef]; clear ih hxs last; simp_all <;> (intros; omega))).symm, rfl⟩
      | (have q := last (((encLs xs).length : Int) == 0) (by rw [hdef, hb0]; clear ih hxs last; cases xs <;> simp_all [chkLs]); (conv at q => whnf); exact q)
      | (have q := last (((encLs xs).length : Int) == 2) (by rw [hdef, hb2]; clear ih hxs last; simp_all); (conv at q => whnf); exact q)
      | (have q := last (decide (k ≤ ((encLs xs).length : Int))) (by rw [hdef]; clear ih hxs last; simp_all; try omega); (conv at q => whnf); exact q)

end Go.Proofs.Ythmlninecfjjgaa.AD

namespace Go.Proofs.Ythmlninecfjjgaa.AD
open Go.Proofs
set_option linter.unusedVariables false
set_option linter.unusedSimpArgs false
set_option maxRecDepth 100000

structure Ins where
  op : Int
  a : Int
  b : Int
def insP (x : Ins) : PV := .agg [.int .u8 x.op, .int .i64 x.a, .int .i64 x.b]

/-- By how much an instruction changes the height. -/
def effI (x : Ins) : Int :=
  if x.op = 1 ∨ x.op = 2 ∨ x.op = 3 ∨ x.op = 4 ∨ x.op = 24 ∨ x.op = 25 ∨ x.op = 34 ∨ x.op = 29 then 1
  else if x.op = 5 ∨ x.op = 6 ∨ x.op = 7 ∨ x.op = 9 ∨ x.op = 23 ∨ x.op = 32 ∨ x.op = 33 then 0
  else if x.op = 37 then IntKind.i64.wrap (1 - x.b) else -1

theorem effect_spec (x : Ins) : pureF Try.prog 81 [.p (insP x)] (.p (.int .i64 (effI x))) := by
  obtain ⟨o, a, b⟩ := x
  refine pureF_of f81_ok fun H => ?_
  have h : (o = 1 ∨ o = 2 ∨ o = 3 ∨ o = 4 ∨ o = 24 ∨ o = 25 ∨ o = 34 ∨ o = 29) ∨ (o = 5 ∨ o = 6 ∨ o = 7 ∨ o = 9 ∨ o = 23 ∨ o = 32 ∨ o = 33) ∨ o = 37 ∨ (o ≠ 1 ∧ o ≠ 2 ∧ o ≠ 3 ∧ o ≠ 4 ∧ o ≠ 24 ∧ o ≠ 25 ∧ o ≠ 34 ∧ o ≠ 29 ∧ o ≠ 5 ∧ o ≠ 6 ∧ o ≠ 7 ∧ o ≠ 9 ∧ o ≠ 23 ∧ o ≠ 32 ∧ o ≠ 33 ∧ o ≠ 37) := by omega
  rcases h with (rfl | rfl | rfl | rfl | rfl | rfl | rfl | rfl) | (rfl | rfl | rfl | rfl | rfl | rfl | rfl) | rfl | ⟨n1, n2, n3, n4, n24, n25, n34, n29, n5, n6, n7, n9, n23, n32, n33, n37⟩
  all_goals repeat' ((conv => whnf); first | refine splitB_t rfl ?_ | refine splitB_f rfl ?_ | (refine splitB_f (beq_eq_false_iff_ne.2 ?_) ?_; (first | exact n1 | exact n2 | exact n3 | exact n4 | exact n24 | exact n25 | exact n34 | exact n29 | exact n5 | exact n6 | exact n7 | exact n9 | exact n23 | exact n32 | exact n33 | exact n37)))
  all_goals (try (conv => whnf))
  all_goals exact ⟨by first | rfl | (simp [effI]; done) | (simp only [effI]; rw [if_neg (by omega), if_neg (by omega), if_neg (by omega)]), rfl⟩

/-- The state. -/
structure Bs where
  T : List ByteArray
  C : List Ins
  S : Int
  h : Int

def tP (T : List ByteArray) : List PV := T.map PV.str
def cP (C : List Ins) : List PV := C.map insP
def mP : Nat → List ByteArray → List (PV × PV)
  | _, [] => []
  | i, t :: r => (.str t, .int .i64 i) :: mP (i + 1) r
theorem tP_len (T : List ByteArray) : (tP T).length = T.length := by simp [tP]
theorem cP_len (C : List Ins) : (cP C).length = C.length := by simp [cP]

def bos (κ : Int) (b : Bs) : List Ob :=
  [.cells [.p (.int .u8 κ), .view (.b 1) b.T.length 1 b.T.length, .view (.b 2) b.C.length 3 b.C.length, .p (.int .i64 b.S), .mapr (.b 3), .p (.int .i64 b.h)],
   .buf b.T.length 1 (tP b.T), .buf b.C.length 3 (cP b.C), .map (mP 0 b.T)]

def putB (x : Ins) (b : Bs) : Bs :=
  { T := b.T, C := if b.C.length ≤ 32768 then b.C ++ [x] else b.C, S := if IntKind.i64.wrap (b.h + effI x) > b.S then IntKind.i64.wrap (b.h + effI x) else b.S, h := IntKind.i64.wrap (b.h + effI x) }

theorem put_spec (κ : Int) (b : Bs) (x : Ins) : Meth Try.prog 52 [.ref (.b 0) 0, .p (.list 3 [insP x])] (bos κ b) (.tup []) (bos κ (putB x b)) := by
  have hef := effect_spec x
  obtain ⟨o, xa, xb⟩ := x
  refine Meth.of f52_ok fun rest => ?_
  have hc := cP_len b.C
  (conv => whnf)
  intro R hR
  refine hR _ _ _ ?_
  (conv => whnf)
  refine splitB_t rfl ?_
  (conv => whnf)
  refine ⟨rfl, insP ⟨o, xa, xb⟩, ⟨by omega, rfl⟩, ?_⟩
  (conv => whnf)
  refine CallD.pureF hef rfl ?_
  (conv => whnf)
  refine ⟨rfl, ?_⟩
  (conv => whnf)
  refine splitB_dec (fun h => ?_) (fun h => ?_)
  · have h : b.C.length ≤ 32768 := by omega
    (conv => whnf)
    refine ⟨rfl, ?_⟩
    (conv => whnf)
    refine ⟨⟨rfl, rfl, rfl, by rw [hc]; exact Nat.le_refl _⟩, by simp [room]; omega, cP (b.C ++ [⟨o, xa, xb⟩]), by rw [← hc, List.take_length]; simp [cP, insP], ?_⟩
    (conv => whnf)
    refine hR _ _ _ ?_
    (conv => whnf)
    refine splitB_f rfl ?_
    (conv => whnf)
    refine ⟨rfl, ?_⟩
    have e : putB ⟨o, xa, xb⟩ b = { T := b.T, C := b.C ++ [⟨o, xa, xb⟩], S := if IntKind.i64.wrap (b.h + effI ⟨o, xa, xb⟩) > b.S then IntKind.i64.wrap (b.h + effI ⟨o, xa, xb⟩) else b.S, h := IntKind.i64.wrap (b.h + effI ⟨o, xa, xb⟩) } := by rw [putB, if_pos h]
    rw [e]
    simp only [bos, List.length_append]
    rfl
  · have h : ¬ b.C.length ≤ 32768 := by omega
    (conv => whnf)
    refine hR _ _ _ ?_
    (conv => whnf)
    refine splitB_f rfl ?_
    (conv => whnf)
    refine ⟨rfl, ?_⟩
    have e : putB ⟨o, xa, xb⟩ b = { T := b.T, C := b.C, S := if IntKind.i64.wrap (b.h + effI ⟨o, xa, xb⟩) > b.S then IntKind.i64.wrap (b.h + effI ⟨o, xa, xb⟩) else b.S, h := IntKind.i64.wrap (b.h + effI ⟨o, xa, xb⟩) } := by rw [putB, if_neg h]
    rw [e]
    rfl

theorem op_spec (κ : Int) (b : Bs) (o : Int) : Meth Try.prog 32 [.ref (.b 0) 0, .p (.int .u8 o)] (bos κ b) (.tup []) (bos κ (putB ⟨o, 0, 0⟩ b)) := by
  refine Meth.of f32_ok fun rest => ?_
  (conv => whnf)
  refine CallVC.same (put_spec κ b ⟨o, 0, 0⟩) rfl rfl rfl ?_
  exact ⟨rfl, rfl⟩

/-! ### a text's number -/
def tix (s : ByteArray) : List ByteArray → Option Nat
  | [] => none
  | t :: r => if s = t then some 0 else (tix s r).map (· + 1)
def namedB (op : Int) (s : ByteArray) (b : Bs) : Bs :=
  match tix s b.T with
  | some i => putB ⟨op, i, 0⟩ b
  | none => putB ⟨op, b.T.length, 0⟩ { b with T := b.T ++ [s] }

theorem tix_find (s : ByteArray) : ∀ (T : List ByteArray) (i : Nat), mfind none (.str s) (mP i T) = some ((tix s T).map fun k => .int .i64 (i + k : Nat)) := by
  intro T
  induction T with
  | nil => intro i; rfl
  | cons t r ih =>
    intro i
    simp only [mP, mfind, keyOk, sameKey, tix]
    by_cases h : s = t
    · subst h; simp
    · rw [decide_eq_false h, if_neg h]
      simp only [ih]
      cases tix s r with
      | none => rfl
      | some k => simp; omega
theorem tix_put (s : ByteArray) : ∀ (T : List ByteArray) (i : Nat), tix s T = none → mput none (.str s) (.int .i64 (i + T.length : Nat)) (mP i T) = some (mP i (T ++ [s])) := by
  intro T
  induction T with
  | nil => intro i _; rfl
  | cons t r ih =>
    intro i h
    simp only [tix] at h
    by_cases h2 : s = t
    · rw [if_pos h2] at h; cases h
    · rw [if_neg h2] at h
      have h3 : tix s r = none := by cases h4 : tix s r with | none => rfl | some k => rw [h4] at h; cases h
      simp only [mP, mput, keyOk, sameKey, List.cons_append]
      rw [decide_eq_false h2]
      have := ih (i + 1) h3
      have e : i + 1 + r.length = i + (t :: r).length := by simp; omega
      rw [e] at this
      simp only [this]
      rfl

theorem named_spec (κ : Int) (b : Bs) (o : Int) (s : ByteArray) (hT : b.T.length ≤ 1000000) : Meth Try.prog 51 [.ref (.b 0) 0, .p (.int .u8 o), .p (.str s)] (bos κ b) (.tup []) (bos κ (namedB o s b)) := by
  refine Meth.of f51_ok fun rest => ?_
  have hf := tix_find s b.T 0
  have ht := tP_len b.T
  rw [namedB]
  cases hi : tix s b.T with
  | some i =>
    rw [hi] at hf
    simp only [Option.map_some, Nat.zero_add] at hf
    (conv => whnf)
    refine ⟨rfl, ?_⟩
    (conv => whnf)
    refine ⟨_, hf, ?_⟩
    (conv => whnf)
    refine splitB_f rfl ?_
    (conv => whnf)
    refine CallVC.same (put_spec κ b ⟨o, i, 0⟩) rfl rfl rfl ?_
    exact ⟨rfl, rfl⟩
  | none =>
    have hp := tix_put s b.T 0 hi
    rw [hi] at hf
    rw [Nat.zero_add] at hp
    (conv => whnf)
    refine ⟨rfl, ?_⟩
    (conv => whnf)
    refine ⟨_, hf, ?_⟩
    (conv => whnf)
    refine splitB_t rfl ?_
    (conv => whnf)
    refine ⟨rfl, ?_⟩
    (conv => whnf)
    refine ⟨rfl, ?_⟩
    (conv => whnf)
    refine ⟨_, hp, ?_⟩
    (conv => whnf)
    refine ⟨rfl, ?_⟩
    (conv => whnf)
    refine ⟨⟨rfl, rfl, rfl, by rw [ht]; exact Nat.le_refl _⟩, by simp [room]; omega, tP (b.T ++ [s]), by rw [← ht, List.take_length]; simp [tP], ?_⟩
    (conv => whnf)
    have hs := put_spec κ { b with T := b.T ++ [s] } ⟨o, b.T.length, 0⟩
    have e : bos κ { b with T := b.T ++ [s] } = [.cells [.p (.int .u8 κ), .view (.b 1) (b.T.length + 1) 1 (b.T.length + 1), .view (.b 2) b.C.length 3 b.C.length, .p (.int .i64 b.S), .mapr (.b 3), .p (.int .i64 b.h)],
        .buf (b.T.length + 1) 1 (tP (b.T ++ [s])), .buf b.C.length 3 (cP b.C), .map (mP 0 (b.T ++ [s]))] := by simp only [bos, List.length_append]; rfl
    rw [e] at hs
    refine CallVC.same hs rfl rfl rfl ?_
    exact ⟨rfl, rfl⟩

/-! ### licensees -/
mutual
def licB : Li → Bs → Bs
  | .mk o t k xs, b => if o = 1 then namedB 34 t b else
      (if o = 2 then putB ⟨35, 0, 0⟩ else if o = 3 then putB ⟨36, 0, 0⟩ else putB ⟨37, k, xs.length⟩) (licsB xs b)
def licsB : List Li → Bs → Bs
  | [], b => b
  | a :: r, b => licsB r (licB a b)
end

theorem putB_T (x : Ins) (b : Bs) : (putB x b).T = b.T := rfl
theorem namedB_T (o : Int) (s : ByteArray) (b : Bs) : (namedB o s b).T.length ≤ b.T.length + 1 := by
  rw [namedB]
  split
  · rw [putB_T]; omega
  · rw [putB_T]; simp
theorem lcnt_pos : ∀ e, 1 ≤ lcnt e := by
    intro e
    induction e using Li.ind with
    | h o t k xs ih =>
      have : ∀ l : List Li, (∀ a, a ∈ l → 1 ≤ lcnt a) → 0 ≤ lcnts l := by
        intro l
        induction l with
        | nil => intro _; simp [lcnts]
        | cons a r ihr => intro h; have := h a (by simp); have := ihr (fun c hc => h c (by simp [hc])); simp only [lcnts]; omega
      have := this xs ih
      simp only [lcnt]
      omega
theorem lcnts_pos : ∀ l, 0 ≤ lcnts l := by
    intro l
    induction l with
    | nil => simp [lcnts]
    | cons a r ihr => have := lcnt_pos a; simp only [lcnts]; omega
theorem licB_T : (∀ e b, ((licB e b).T.length : Int) ≤ b.T.length + lcnt e) ∧ ∀ l b, ((licsB l b).T.length : Int) ≤ b.T.length + lcnts l := by
  have main : ∀ l : List Li, (∀ a, a ∈ l → ∀ b, ((licB a b).T.length : Int) ≤ b.T.length + lcnt a) → ∀ b, ((licsB l b).T.length : Int) ≤ b.T.length + lcnts l := by
    intro l
    induction l with
    | nil => intro _ b; simp [licsB, lcnts]
    | cons a r ih =>
      intro h b
      have h1 := h a (by simp) b
      have h2 := ih (fun c hc => h c (by simp [hc])) (licB a b)
      simp only [licsB, lcnts]
      omega
  have one : ∀ e b, ((licB e b).T.length : Int) ≤ b.T.length + lcnt e := by
    intro e
    induction e using Li.ind with
    | h o t k xs ih =>
      intro b
      have h1 := main xs ih b
      have h2 := namedB_T 34 t b
      have h3 := lcnts_pos xs
      simp only [licB, lcnt]
      (repeat' split) <;> first | omega | (simp only [putB_T]; omega)
  exact ⟨one, fun l => main l fun a _ => one a⟩

theorem lic_spec (κ : Int) (e : Li) : ∀ b : Bs, FitsL e → (b.T.length : Int) + lcnt e ≤ 1000000 → Meth Try.prog 31 [.ref (.b 0) 0, .p (encL e)] (bos κ b) (.tup []) (bos κ (licB e b)) := by
  induction e using Li.ind with
  | h o t k xs ih =>
    intro b hfit hT
    cases hfit with
    | mk _ _ _ _ ho hk1 hk2 ht hx hxs =>
    have he := encLs_len xs
    refine Meth.of f31_ok fun rest => ?_
    (conv => whnf)
    refine splitB_eq (fun h1 => ?_) (fun h1 => ?_)
    · subst h1
      (conv => whnf)
      refine CallVC.same (named_spec κ b 34 t (by have := lcnt_pos (.mk 1 t k xs); omega)) rfl rfl rfl ?_
      exact ⟨rfl, rfl⟩
    · (conv => whnf)
      intro R hR
      have hT2 : (b.T.length : Int) + lcnts xs < 1000000 := by simp only [lcnt] at hT; omega
      have key : ∀ (l : List Li) (i : Nat) (b1 : Bs), xs.drop i = l → (b1.T.length : Int) + lcnts l < 1000000 → licsB l b1 = licsB xs b → R [(0, .ref (.b 0) 0), (3, .ref (.l 0) 0), (14, .p (.list 4 (encLs xs))), (15, .p (.int .i64 (encLs xs).length)), (16, .p (.int .i64 i))] (bos κ b1 ++ rest)
          [.cells [.p (.int .u8 o), .p (.str t), .p (.int .i64 k), .p (.list 4 (encLs xs))]] := by
        intro l
        induction l with
        | nil =>
          intro i b1 hd hb hq
          have hl := drop_nil hd
          have hdef : licB (.mk o t k xs) b = (if o = 2 then putB ⟨35, 0, 0⟩ else if o = 3 then putB ⟨36, 0, 0⟩ else putB ⟨37, k, xs.length⟩) b1 := by
            simp only [licB, if_neg h1]
            rw [← hq]
            rfl
          refine hR _ _ _ ?_
          (conv => whnf)
          refine splitB_f (decide_eq_false (by omega)) ?_
          (conv => whnf)
          refine splitB_eq (fun h2 => ?_) (fun h2 => ?_)
          · subst h2
            (conv => whnf)
            refine CallVC.same (op_spec κ b1 35) rfl rfl rfl ?_
            exact ⟨rfl, by rw [hdef]; rfl⟩
          · (conv => whnf)
            refine splitB_eq (fun h3 => ?_) (fun h3 => ?_)
            · subst h3
              (conv => whnf)
              refine CallVC.same (op_spec κ b1 36) rfl rfl rfl ?_
              exact ⟨rfl, by rw [hdef]; rfl⟩
            · (conv => whnf)
              rw [he]
              refine CallVC.same (put_spec κ b1 ⟨37, k, xs.length⟩) rfl rfl rfl ?_
              exact ⟨rfl, by rw [hdef, if_neg h2, if_neg h3]⟩
        | cons a l ihr =>
          intro i b1 hd hb hq
          obtain ⟨hg, hd', hi⟩ := drop_cons hd
          have hfa := hxs a (List.mem_of_getElem? hg)
          have hp := lcnts_pos l
          have hbt := licB_T.1 a b1
          simp only [lcnts] at hb
          have iha := ih a (List.mem_of_getElem? hg) b1 hfa (by omega)
          refine hR _ _ _ ?_
          (conv => whnf)
          refine splitB_t (decide_eq_true (by omega)) ?_
          (conv => whnf)
          obtain ⟨o', t', k', xs'⟩ := a
          refine ⟨rfl, encL (.mk o' t' k' xs'), ⟨by omega, encLs_get hg⟩, ?_⟩
          (conv => whnf)
          refine CallVC.same iha rfl rfl rfl ?_
          (conv => whnf)
          rw [IntWalk.i64_in _ (by omega)]
          exact ihr (i + 1) _ hd' (by omega) hq
      exact key xs 0 b rfl hT2 rfl

end Go.Proofs.Ythmlninecfjjgaa.AD

namespace Go.Proofs.Ythmlninecfjjgaa.AD
open Go.Proofs
set_option linter.unusedVariables false
set_option linter.unusedSimpArgs false
set_option maxRecDepth 100000

theorem Height_spec (x : Ins) (h1 : 1 ≤ x.op) (h2 : x.op ≤ 38) : pureF Try.prog 49 [.p (insP x)] (.p (.int .i64 (effI x))) := by
  obtain ⟨o, a, b⟩ := x
  have hall : o = 1 ∨ o = 2 ∨ o = 3 ∨ o = 4 ∨ o = 5 ∨ o = 6 ∨ o = 7 ∨ o = 8 ∨ o = 9 ∨ o = 10 ∨ o = 11 ∨ o = 12 ∨ o = 13 ∨ o = 14 ∨ o = 15 ∨ o = 16 ∨ o = 17 ∨ o = 18 ∨ o = 19 ∨ o = 20 ∨ o = 21 ∨ o = 22 ∨ o = 23 ∨ o = 24 ∨ o = 25 ∨ o = 26 ∨ o = 27 ∨ o = 28 ∨ o = 29 ∨ o = 30 ∨ o = 31 ∨ o = 32 ∨ o = 33 ∨ o = 34 ∨ o = 35 ∨ o = 36 ∨ o = 37 ∨ o = 38 := by
    have h1 : 1 ≤ o := h1
    have h2 : o ≤ 38 := h2
    omega
  clear h1 h2
  refine pureF_of f49_ok fun H => ?_
  rcases hall with rfl | rfl | rfl | rfl | rfl | rfl | rfl | rfl | rfl | rfl | rfl | rfl | rfl | rfl | rfl | rfl | rfl | rfl | rfl | rfl | rfl | rfl | rfl | rfl | rfl | rfl | rfl | rfl | rfl | rfl | rfl | rfl | rfl | rfl | rfl | rfl | rfl | rfl
  all_goals repeat' ((conv => whnf); first | refine splitB_t rfl ?_ | refine splitB_f rfl ?_)
  all_goals (try (conv => whnf))
  all_goals exact ⟨rfl, rfl⟩

structure Ws where
  T : List ByteArray
  C : List Ins
  S : Int
  h : Int
  o : Bool

def wos (κ : Int) (w : Ws) : List Ob :=
  [.cells [.p (.int .u8 κ), .view (.b 1) w.T.length 1 w.T.length, .view (.b 2) w.C.length 3 w.C.length, .p (.int .i64 w.S), .p (.int .i64 w.h), .p (.bool w.o)],
   .buf w.T.length 1 (tP w.T), .buf w.C.length 3 (cP w.C)]

def putW (x : Ins) (w : Ws) : Ws :=
  if w.o = true ∨ 32768 < w.C.length then { w with o := true } else
  { T := w.T, C := w.C ++ [x], S := if IntKind.i64.wrap (w.h + effI x) > w.S then IntKind.i64.wrap (w.h + effI x) else w.S, h := IntKind.i64.wrap (w.h + effI x), o := w.o }
def putN (w : Ws) : Int := if w.o = true ∨ 32768 < w.C.length then 0 else w.C.length

theorem refput_spec (κ : Int) (w : Ws) (x : Ins) (h1 : 1 ≤ x.op) (h2 : x.op ≤ 38) : Meth Try.prog 28 [.ref (.b 0) 0, .p (.int .u8 x.op), .p (.int .i64 x.a), .p (.int .i64 x.b)] (wos κ w) (.int .i64 (putN w)) (wos κ (putW x w)) := by
  have hef := Height_spec x h1 h2
  obtain ⟨o, xa, xb⟩ := x
  refine Meth.of f28_ok fun rest => ?_
  have hc := cP_len w.C
  have over : (w.o = true ∨ 32768 < w.C.length) → (putN w = 0 ∧ putW ⟨o, xa, xb⟩ w = { w with o := true }) := fun h => ⟨by rw [putN, if_pos h], by rw [putW, if_pos h]⟩
  (conv => whnf)
  refine splitB_intro (fun hov => ?_) (fun hov => ?_)
  · obtain ⟨g1, g2⟩ := over (.inl hov)
    (conv => whnf)
    refine splitB_t rfl ?_
    exact ⟨by rw [g1], by rw [g2]; rfl⟩
  · (conv => whnf)
    refine ⟨rfl, ?_⟩
    (conv => whnf)
    refine splitB_dec (fun h => ?_) (fun h => ?_)
    · obtain ⟨g1, g2⟩ := over (.inr (by omega))
      exact ⟨by rw [g1], by rw [g2]; rfl⟩
    · have hn : ¬ (w.o = true ∨ 32768 < w.C.length) := by rw [hov]; simp; omega
      have g1 : putN w = w.C.length := by rw [putN, if_neg hn]
      have g2 : putW ⟨o, xa, xb⟩ w = { T := w.T, C := w.C ++ [⟨o, xa, xb⟩], S := if IntKind.i64.wrap (w.h + effI ⟨o, xa, xb⟩) > w.S then IntKind.i64.wrap (w.h + effI ⟨o, xa, xb⟩) else w.S, h := IntKind.i64.wrap (w.h + effI ⟨o, xa, xb⟩), o := w.o } := by rw [putW, if_neg hn]
      rw [g1, g2]
      (conv => whnf)
      refine ⟨rfl, ?_⟩
      (conv => whnf)
      refine ⟨⟨rfl, rfl, rfl, by rw [hc]; exact Nat.le_refl _⟩, by simp [room]; omega, cP (w.C ++ [⟨o, xa, xb⟩]), by rw [← hc, List.take_length]; simp [cP, insP], ?_⟩
      (conv => whnf)
      refine CallD.pureF hef rfl ?_
      (conv => whnf)
      refine ⟨rfl, ?_⟩
      (conv => whnf)
      refine ⟨?_, ?_⟩
      · rw [IntWalk.i64_in _ (by simp; omega)]
        simp
      · simp only [wos, List.length_append]
        rfl

def namedW (op : Int) (s : ByteArray) (w : Ws) : Ws :=
  if w.o = true then w else
  match tix s w.T with
  | some i => putW ⟨op, i, 0⟩ w
  | none => if 8192 < w.T.length then { w with o := true } else putW ⟨op, w.T.length, 0⟩ { w with T := w.T ++ [s] }

theorem tix_drop (s : ByteArray) : ∀ (T : List ByteArray) (i : Nat) (r : List ByteArray), T.drop i = r → (∀ k, k < i → T[k]? ≠ some s) → tix s T = (tix s r).map (· + i) := by
  intro T
  induction T with
  | nil => intro i r hd _; simp at hd; subst hd; rfl
  | cons t T ih =>
    intro i r hd hn
    cases i with
    | zero => simp at hd; subst hd; cases tix s (t :: T) <;> rfl
    | succ i =>
      have h1 := hn 0 (by omega)
      have h2 := ih i r (by simpa using hd) fun k hk => by have := hn (k + 1) (by omega); simpa using this
      have h3 : ¬ s = t := fun e => h1 (by rw [e]; rfl)
      simp only [tix, if_neg h3, h2]
      cases tix s r <;> simp
      omega

theorem refnamed_spec (κ : Int) (w : Ws) (o : Int) (s : ByteArray) (h1 : 1 ≤ o) (h2 : o ≤ 38) (hT : w.T.length ≤ 1000000) : Meth Try.prog 48 [.ref (.b 0) 0, .p (.int .u8 o), .p (.str s)] (wos κ w) (.tup []) (wos κ (namedW o s w)) := by
  refine Meth.of f48_ok fun rest => ?_
  have ht := tP_len w.T
  (conv => whnf)
  refine splitB_intro (fun hov => ?_) (fun hov => ?_)
  · exact ⟨rfl, by rw [namedW, if_pos hov]⟩
  · have hov2 : ¬ w.o = true := by rw [hov]; simp
    (conv => whnf)
    intro R hR
    have key : ∀ (l : List ByteArray) (i : Nat), w.T.drop i = l → (∀ k, k < i → w.T[k]? ≠ some s) → R [(0, .ref (.b 0) 0), (1, .p (.int .u8 o)), (2, .p (.str s)), (6, .p (.int .i64 i))] (wos κ w ++ rest) [] := by
      intro l
      induction l with
      | nil =>
        intro i hd hn
        have hl := drop_nil hd
        have hno : tix s w.T = none := by rw [tix_drop s w.T i [] hd hn]; rfl
        have hdef : namedW o s w = if 8192 < w.T.length then { w with o := true } else putW ⟨o, w.T.length, 0⟩ { w with T := w.T ++ [s] } := by rw [namedW, if_neg hov2, hno]
        refine hR _ _ _ ?_
        (conv => whnf)
        refine ⟨rfl, ?_⟩
        (conv => whnf)
        refine splitB_f (decide_eq_false (by omega)) ?_
        (conv => whnf)
        refine ⟨rfl, ?_⟩
        (conv => whnf)
        refine splitB_dec (fun h => ?_) (fun h => ?_)
        · exact ⟨rfl, by rw [hdef, if_pos (by omega)]; rfl⟩
        · (conv => whnf)
          refine ⟨rfl, ?_⟩
          (conv => whnf)
          refine ⟨⟨rfl, rfl, rfl, by rw [ht]; exact Nat.le_refl _⟩, by simp [room]; omega, tP (w.T ++ [s]), by rw [← ht, List.take_length]; simp [tP], ?_⟩
          (conv => whnf)
          refine ⟨rfl, ?_⟩
          (conv => whnf)
          have hs := refput_spec κ { w with T := w.T ++ [s] } ⟨o, w.T.length, 0⟩ h1 h2
          have e : wos κ { w with T := w.T ++ [s] } = [.cells [.p (.int .u8 κ), .view (.b 1) (w.T.length + 1) 1 (w.T.length + 1), .view (.b 2) w.C.length 3 w.C.length, .p (.int .i64 w.S), .p (.int .i64 w.h), .p (.bool w.o)],
              .buf (w.T.length + 1) 1 (tP (w.T ++ [s])), .buf w.C.length 3 (cP w.C)] := by simp only [wos, List.length_append]; rfl
          rw [e] at hs
          have ew : IntKind.i64.wrap (((w.T.length + [PV.str s].length : Nat) : Int) - 1) = w.T.length := by rw [IntWalk.i64_in _ (by simp; omega)]; simp
          rw [ew]
          refine CallVC.same hs rfl rfl rfl ?_
          exact ⟨rfl, by rw [hdef, if_neg (by omega)]⟩
      | cons t l ihr =>
        intro i hd hn
        obtain ⟨hg, hd', hi⟩ := drop_cons hd
        refine hR _ _ _ ?_
        (conv => whnf)
        refine ⟨rfl, ?_⟩
        (conv => whnf)
        refine splitB_t (decide_eq_true (by omega)) ?_
        (conv => whnf)
        refine ⟨⟨rfl, by omega, by omega⟩, ?_⟩
        (conv => whnf)
        refine ⟨rfl, ?_⟩
        (conv => whnf)
        refine ⟨⟨rfl, rfl⟩, .str t, by rw [Int.toNat_natCast, tP, List.getElem?_map, hg]; rfl, ?_⟩
        (conv => whnf)
        refine splitB_eq (fun h => ?_) (fun h => ?_)
        · have hst : t = s := by
            have := ba_ext.1 h
            cases t; cases s
            simp at this
            exact congrArg _ this
          subst hst
          have hyes : tix t w.T = some i := by rw [tix_drop t w.T i _ hd hn]; simp [tix]
          (conv => whnf)
          refine CallVC.same (refput_spec κ w ⟨o, i, 0⟩ h1 h2) rfl rfl rfl ?_
          exact ⟨rfl, by rw [namedW, if_neg hov2, hyes]⟩
        · (conv => whnf)
          rw [IntWalk.i64_in _ (by omega)]
          refine ihr (i + 1) hd' fun k hk => ?_
          rcases Nat.lt_or_ge k i with hk2 | hk2
          · exact hn k hk2
          · have : k = i := by omega
            subst this
            rw [hg]
            intro e
            cases e
            exact h rfl
    exact key w.T 0 rfl fun k hk => by omega

/-! ### licensees -/
mutual
def licW : Li → Ws → Ws
  | .mk o t k xs, w => if o = 1 then namedW 34 t w else
      (if o = 2 then putW ⟨35, 0, 0⟩ else if o = 3 then putW ⟨36, 0, 0⟩ else if o = 4 then putW ⟨37, k, xs.length⟩ else id) (licsW xs w)
def licsW : List Li → Ws → Ws
  | [], w => w
  | a :: r, w => if w.o = true then w else licsW r (licW a w)
end

theorem putW_T (x : Ins) (w : Ws) : (putW x w).T = w.T := by rw [putW]; split <;> rfl
theorem namedW_T (o : Int) (s : ByteArray) (w : Ws) : (namedW o s w).T.length ≤ w.T.length + 1 := by
  rw [namedW]
  split
  · omega
  · split
    · rw [putW_T]; omega
    · split
      · simp
      · rw [putW_T]; simp
theorem licW_T : (∀ e w, ((licW e w).T.length : Int) ≤ w.T.length + lcnt e) ∧ ∀ l w, ((licsW l w).T.length : Int) ≤ w.T.length + lcnts l := by
  have main : ∀ l : List Li, (∀ a, a ∈ l → ∀ w, ((licW a w).T.length : Int) ≤ w.T.length + lcnt a) → ∀ w, ((licsW l w).T.length : Int) ≤ w.T.length + lcnts l := by
    intro l
    induction l with
    | nil => intro _ w; simp [licsW, lcnts]
    | cons a r ih =>
      intro h w
      have h1 := h a (by simp) w
      have h2 := ih (fun c hc => h c (by simp [hc])) (licW a w)
      have h3 := lcnt_pos a
      have h4 := lcnts_pos r
      simp only [licsW, lcnts]
      split <;> omega
  have one : ∀ e w, ((licW e w).T.length : Int) ≤ w.T.length + lcnt e := by
    intro e
    induction e using Li.ind with
    | h o t k xs ih =>
      intro w
      have h1 := main xs ih w
      have h2 := namedW_T 34 t w
      have h3 := lcnts_pos xs
      simp only [licW, lcnt]
      (repeat' split) <;> first | omega | (simp only [putW_T]; omega) | (simp only [id]; omega)
  exact ⟨one, fun l => main l fun a _ => one a⟩

theorem reflic_spec (κ : Int) (e : Li) : ∀ w : Ws, FitsL e → (w.T.length : Int) + lcnt e ≤ 1000000 → Meth Try.prog 27 [.ref (.b 0) 0, .p (encL e)] (wos κ w) (.tup []) (wos κ (licW e w)) := by
  induction e using Li.ind with
  | h o t k xs ih =>
    intro w hfit hT
    cases hfit with
    | mk _ _ _ _ ho hk1 hk2 ht hx hxs =>
    have he := encLs_len xs
    refine Meth.of f27_ok fun rest => ?_
    (conv => whnf)
    refine splitB_eq (fun h1 => ?_) (fun h1 => ?_)
    · subst h1
      (conv => whnf)
      refine CallVC.same (refnamed_spec κ w 34 t (by omega) (by omega) (by have := lcnt_pos (.mk 1 t k xs); omega)) rfl rfl rfl ?_
      exact ⟨rfl, rfl⟩
    · (conv => whnf)
      intro R hR
      have hT2 : (w.T.length : Int) + lcnts xs < 1000000 := by simp only [lcnt] at hT; omega
      have last : ∀ w1 : Ws, w1 = licsW xs w → W Try.prog f27.c29 [(0, .ref (.b 0) 0), (3, .ref (.l 0) 0)] (wos κ w1 ++ rest) [.cells [.p (.int .u8 o), .p (.str t), .p (.int .i64 k), .p (.list 4 (encLs xs))]] (endQ f27 fun r' H' => r' = .p (.tup []) ∧ H' = wos κ (licW (.mk o t k xs) w) ++ rest) := by
        intro w1 hw
        have hdef : licW (.mk o t k xs) w = (if o = 2 then putW ⟨35, 0, 0⟩ else if o = 3 then putW ⟨36, 0, 0⟩ else if o = 4 then putW ⟨37, k, xs.length⟩ else id) w1 := by
          simp only [licW, if_neg h1]
          rw [hw]
        (conv => whnf)
        refine splitB_eq (fun h2 => ?_) (fun h2 => ?_)
        · subst h2
          (conv => whnf)
          refine CallVC.same (refput_spec κ w1 ⟨35, 0, 0⟩ (by simp) (by simp)) rfl rfl rfl ?_
          exact ⟨rfl, by rw [hdef]; rfl⟩
        · (conv => whnf)
          refine splitB_eq (fun h3 => ?_) (fun h3 => ?_)
          · subst h3
            (conv => whnf)
            refine CallVC.same (refput_spec κ w1 ⟨36, 0, 0⟩ (by simp) (by simp)) rfl rfl rfl ?_
            exact ⟨rfl, by rw [hdef]; rfl⟩
          · (conv => whnf)
            refine splitB_eq (fun h4 => ?_) (fun h4 => ?_)
            · subst h4
              (conv => whnf)
              rw [he]
              refine CallVC.same (refput_spec κ w1 ⟨37, k, xs.length⟩ (by simp) (by simp)) rfl rfl rfl ?_
              exact ⟨rfl, by rw [hdef]; rfl⟩
            · exact ⟨rfl, by rw [hdef, if_neg h2, if_neg h3, if_neg h4]; rfl⟩
      have key : ∀ (l : List Li) (i : Nat) (w1 : Ws), xs.drop i = l → (w1.T.length : Int) + lcnts l < 1000000 → licsW l w1 = licsW xs w → R [(0, .ref (.b 0) 0), (3, .ref (.l 0) 0), (4, .p (.int .i64 i))] (wos κ w1 ++ rest)
          [.cells [.p (.int .u8 o), .p (.str t), .p (.int .i64 k), .p (.list 4 (encLs xs))]] := by
        intro l
        induction l with
        | nil =>
          intro i w1 hd hb hq
          have hl := drop_nil hd
          refine hR _ _ _ ?_
          (conv => whnf)
          refine splitB_f (decide_eq_false (by omega)) ?_
          (conv => whnf)
          refine splitB_f rfl ?_
          have q := last w1 (by rw [← hq]; rfl)
          (conv at q => whnf)
          (conv => whnf)
          exact q
        | cons a l ihr =>
          intro i w1 hd hb hq
          obtain ⟨hg, hd', hi⟩ := drop_cons hd
          have hfa := hxs a (List.mem_of_getElem? hg)
          have hp := lcnts_pos l
          have hbt := licW_T.1 a w1
          simp only [lcnts] at hb
          have iha := ih a (List.mem_of_getElem? hg) w1 hfa (by omega)
          refine hR _ _ _ ?_
          (conv => whnf)
          refine splitB_t (decide_eq_true (by omega)) ?_
          (conv => whnf)
          refine splitB_intro (fun hov => ?_) (fun hov => ?_)
          · have hov : w1.o = false := by simpa using hov
            have hnov : ¬ w1.o = true := by rw [hov]; simp
            (conv => whnf)
            obtain ⟨o', t', k', xs'⟩ := a
            refine ⟨rfl, encL (.mk o' t' k' xs'), ⟨by omega, encLs_get hg⟩, ?_⟩
            (conv => whnf)
            refine CallVC.same iha rfl rfl rfl ?_
            (conv => whnf)
            rw [IntWalk.i64_in _ (by omega)]
            exact ihr (i + 1) _ hd' (by omega) (by rw [← hq]; simp only [licsW, if_neg hnov])
          · have hov : w1.o = true := by simpa using hov
            have q := last w1 (by rw [← hq]; simp only [licsW, if_pos hov])
            (conv at q => whnf)
            (conv => whnf)
            exact q
      exact key xs 0 w rfl hT2 rfl

end Go.Proofs.Ythmlninecfjjgaa.AD

namespace Go.Proofs.Ythmlninecfjjgaa.AD
open Go.Proofs
set_option linter.unusedVariables false
set_option linter.unusedSimpArgs false
set_option maxRecDepth 100000

/-! ### numbers -/
def contP (u : Int) : PV := .int .u8 (IntKind.u8.wrap (BitVec.ofInt 8 (IntKind.u8.wrap u) ||| BitVec.ofInt 8 128).toNat)
def numP : Nat → Int → List PV
  | 0, u => [.int .u8 (IntKind.u8.wrap u)]
  | f + 1, u => if 128 ≤ u then contP u :: numP f (u / 128) else [.int .u8 (IntKind.u8.wrap u)]
def szN : Nat → Int → Int
  | 0, _ => 1
  | f + 1, u => if 128 ≤ u then 1 + szN f (u / 128) else 1
theorem numP_len (f : Nat) : ∀ u, ((numP f u).length : Int) = szN f u := by
  induction f with
  | zero => intro u; rfl
  | succ f ih =>
    intro u
    simp only [numP, szN]
    split
    · have := ih (u / 128); simp; omega
    · rfl
theorem szN_range (f : Nat) : ∀ u, 1 ≤ szN f u ∧ szN f u ≤ f + 1 := by
  induction f with
  | zero => intro u; simp [szN]
  | succ f ih =>
    intro u
    have := ih (u / 128)
    simp only [szN]
    split <;> omega

theorem size_spec (n : Int) (h0 : 0 ≤ n) (h1 : n ≤ 2147483647) : pureF Try.prog 77 [.p (.int .i64 n)] (.p (.int .i64 (szN 5 n))) := by
  refine pureF_of f77_ok fun H => ?_
  (conv => whnf)
  intro R hR
  have key : ∀ (f : Nat) (u k : Int), (0 ≤ u ∧ u ≤ 2147483647) → u < 128 ^ (f + 1) → 1 ≤ k → k + f ≤ 100 → k - 1 + szN f u = szN 5 n → R [(0, .p (.int .i64 u)), (3, .p (.int .i64 k))] H [] := by
    intro f
    induction f with
    | zero =>
      intro u k g0 g1 g2 g3 g4
      have g1 : u < 128 := by simpa using g1
      refine hR _ _ _ ?_
      (conv => whnf)
      refine splitB_f (decide_eq_false (by omega)) ?_
      exact ⟨by rw [← g4]; simp only [szN]; congr 3; omega, rfl⟩
    | succ f ih =>
      intro u k g0 g1 g2 g3 g4
      refine hR _ _ _ ?_
      (conv => whnf)
      refine splitB_dec (fun h => ?_) (fun h => ?_)
      · (conv => whnf)
        refine ⟨by omega, ?_⟩
        (conv => whnf)
        have hq : u.tdiv 128 = u / 128 := Int.tdiv_eq_ediv_of_nonneg g0.1
        have hp : (128 : Int) ^ (f + 1 + 1) = 128 * 128 ^ (f + 1) := by rw [Int.pow_succ, Int.mul_comm]
        have hlt : u / 128 < 128 ^ (f + 1) := by rw [hp] at g1; omega
        rw [hq, IntWalk.i64_in _ (by omega), IntWalk.i64_in _ (by omega)]
        exact ih (u / 128) (k + 1) (by omega) hlt (by omega) (by omega) (by rw [← g4]; simp only [szN]; rw [if_pos (by omega)]; omega)
      · exact ⟨by rw [← g4]; simp only [szN]; rw [if_neg (by omega)]; congr 3; omega, rfl⟩
  have hpow : n < (128 : Int) ^ (5 + 1) := by
    have : (128 : Int) ^ (5 + 1) = 4398046511104 := by decide
    omega
  exact key 5 n 1 ⟨h0, h1⟩ hpow (by omega) (by omega) (by omega)

theorem put_code_spec (n : Int) (h0 : 0 ≤ n) (h1 : n ≤ 2147483647) (g : Nat) (ys : List PV) (hy : ys.length ≤ 35184372088832) :
    MethV Try.prog 96 [.view (.b 0) g 1 ys.length, .p (.int .i64 n)] [.buf g 1 ys] (.view (.b 0) (g + (numP 5 n).length) 1 (ys.length + (numP 5 n).length)) [.buf (g + (numP 5 n).length) 1 (ys ++ numP 5 n)] := by
  refine MethV.of f96_ok fun rest => ?_
  (conv => whnf)
  have hu : IntKind.u32.wrap n = n := by
    have : IntKind.u32.wrap n = n % 4294967296 := by simp [IntKind.wrap, IntKind.bits, IntKind.signed]
    rw [this]
    omega
  rw [hu]
  intro R hR
  have fin : ∀ (u : Int) (zs : List PV), u < 128 → zs ++ [.int .u8 (IntKind.u8.wrap u)] = numP 5 n → zs.length ≤ 5 → R [(0, .view (.b 0) (g + zs.length) 1 (ys.length + zs.length)), (5, .p (.int .u32 u))] ([.buf (g + zs.length) 1 (ys ++ zs)] ++ rest) [] := by
    intro u zs g1 g2 g3
    refine hR _ _ _ ?_
    (conv => whnf)
    refine splitB_f (decide_eq_false (by omega)) ?_
    (conv => whnf)
    refine ⟨rfl, ?_⟩
    (conv => whnf)
    refine ⟨⟨rfl, rfl, rfl, by simp⟩, by simp [room]; omega, ys ++ numP 5 n, by rw [List.take_of_length_le (by simp), List.append_assoc, g2], ?_⟩
    (conv => whnf)
    have hl := congrArg List.length g2
    simp only [List.length_append] at hl
    refine ⟨?_, ?_⟩
    · rw [← hl]; rfl
    · rw [← hl]; rfl
  have key : ∀ (f : Nat) (u : Int) (zs : List PV), 0 ≤ u → u < 128 ^ (f + 1) → zs ++ numP f u = numP 5 n → zs.length + f ≤ 5 → R [(0, .view (.b 0) (g + zs.length) 1 (ys.length + zs.length)), (5, .p (.int .u32 u))] ([.buf (g + zs.length) 1 (ys ++ zs)] ++ rest) [] := by
    intro f
    induction f with
    | zero =>
      intro u zs g0 g1 g2 g3
      exact fin u zs (by simpa using g1) g2 (by omega)
    | succ f ih =>
      intro u zs g0 g1 g2 g3
      have e0 : numP (f + 1) u = if 128 ≤ u then contP u :: numP f (u / 128) else [.int .u8 (IntKind.u8.wrap u)] := rfl
      rw [e0] at g2
      by_cases h : 128 ≤ u
      · rw [if_pos h] at g2
        refine hR _ _ _ ?_
        (conv => whnf)
        refine splitB_t (decide_eq_true (by omega)) ?_
        (conv => whnf)
        refine ⟨rfl, ?_⟩
        (conv => whnf)
        refine ⟨⟨rfl, rfl, rfl, by simp⟩, by simp [room]; omega, ys ++ (zs ++ [contP u]), by rw [List.take_of_length_le (by simp), List.append_assoc]; rfl, ?_⟩
        (conv => whnf)
        refine ⟨by omega, ?_⟩
        (conv => whnf)
        have hp : (128 : Int) ^ (f + 1 + 1) = 128 * 128 ^ (f + 1) := by rw [Int.pow_succ, Int.mul_comm]
        have q := ih (u / 128) (zs ++ [contP u]) (by omega) (by rw [hp] at g1; omega) (by rw [← g2]; simp) (by simp; omega)
        have hs : u.fdiv (2 ^ (min (Int.toNat 7) 32)) = u / 128 := by
          rw [Int.fdiv_eq_ediv_of_nonneg _ (by decide)]
          rfl
        have e1 : (zs ++ [contP u]).length = zs.length + 1 := by simp
        rw [e1] at q
        rw [← hs] at q
        exact q
      · rw [if_neg h] at g2
        exact fin u zs (by omega) g2 (by omega)
  have hpow : n < (128 : Int) ^ (5 + 1) := by
    have : (128 : Int) ^ (5 + 1) = 4398046511104 := by decide
    omega
  have q := key 5 n [] h0 hpow rfl (by simp)
  rw [List.append_nil] at q
  exact q

end Go.Proofs.Ythmlninecfjjgaa.AD

namespace Go.Proofs.Ythmlninecfjjgaa.AD
open Go.Proofs
set_option linter.unusedVariables false
set_option linter.unusedSimpArgs false
set_option maxRecDepth 100000

def hasA (op : Int) : Bool := decide (op = 1 ∨ op = 2 ∨ op = 3 ∨ op = 4 ∨ op = 34 ∨ op = 26 ∨ op = 27 ∨ op = 28 ∨ op = 29 ∨ op = 37)
def hasB (op : Int) : Bool := decide (op = 37)
def fitsB (n : Int) : Bool := decide (0 ≤ n) && decide (n ≤ 2147483647)
def insOk (x : Ins) : Bool := decide (1 ≤ x.op) && decide (x.op ≤ 38) && fitsB x.a && fitsB x.b && (hasA x.op || decide (x.a = 0)) && (hasB x.op || decide (x.b = 0))
def shp (op : Int) : Int := if op = 37 then 3 else if hasA op then 1 else 0

theorem opcases (o : Int) : (o = 1 ∨ o = 2 ∨ o = 3 ∨ o = 4 ∨ o = 34 ∨ o = 26 ∨ o = 27 ∨ o = 28 ∨ o = 29 ∨ o = 37) ∨ (o ≠ 1 ∧ o ≠ 2 ∧ o ≠ 3 ∧ o ≠ 4 ∧ o ≠ 34 ∧ o ≠ 26 ∧ o ≠ 27 ∧ o ≠ 28 ∧ o ≠ 29 ∧ o ≠ 37) := by omega

theorem hasA_spec (o : Int) : pureF Try.prog 79 [.p (.int .u8 o)] (.p (.bool (hasA o))) := by
  refine pureF_of f79_ok fun H => ?_
  rcases opcases o with (rfl | rfl | rfl | rfl | rfl | rfl | rfl | rfl | rfl | rfl) | ⟨n1, n2, n3, n4, n34, n26, n27, n28, n29, n37⟩
  all_goals repeat' ((conv => whnf); first | refine splitB_t rfl ?_ | refine splitB_f rfl ?_ | (refine splitB_f (beq_eq_false_iff_ne.2 ?_) ?_; (first | exact n1 | exact n2 | exact n3 | exact n4 | exact n34 | exact n26 | exact n27 | exact n28 | exact n29)))
  all_goals (try (conv => whnf))
  all_goals first
    | exact ⟨rfl, rfl⟩
    | exact ⟨congrArg (fun n => AV.p (PV.bool n)) (by rw [beq_eq_false_iff_ne.2 n37, hasA, decide_eq_false (by omega)]), rfl⟩
theorem hasB_spec (o : Int) : pureF Try.prog 80 [.p (.int .u8 o)] (.p (.bool (hasB o))) := by
  refine pureF_of f80_ok fun H => ?_
  (conv => whnf)
  exact ⟨congrArg (fun n => AV.p (PV.bool n)) (by rw [hasB, Bool.eq_iff_iff]; simp), rfl⟩
theorem codeOf_spec (o : Int) : pureF Try.prog 74 [.p (.int .u8 o)] (.p (.int .u8 (shp o))) := by
  refine pureF_of f74_ok fun H => ?_
  rcases opcases o with (rfl | rfl | rfl | rfl | rfl | rfl | rfl | rfl | rfl | rfl) | ⟨n1, n2, n3, n4, n34, n26, n27, n28, n29, n37⟩
  all_goals repeat' ((conv => whnf); first | refine splitB_t rfl ?_ | refine splitB_f rfl ?_ | (refine splitB_f (beq_eq_false_iff_ne.2 ?_) ?_; (first | exact n1 | exact n2 | exact n3 | exact n4 | exact n34 | exact n26 | exact n27 | exact n28 | exact n29 | exact n37)))
  all_goals (try (conv => whnf))
  all_goals first
    | exact ⟨rfl, rfl⟩
    | exact ⟨congrArg (fun n => AV.p (PV.int .u8 n)) (by rw [shp, if_neg n37, hasA, decide_eq_false (by omega)]; rfl), rfl⟩
theorem fits_spec (n : Int) : pureF Try.prog 76 [.p (.int .i64 n)] (.p (.bool (fitsB n))) := by
  refine pureF_of f76_ok fun H => ?_
  (conv => whnf)
  refine splitB_dec (fun h => ?_) (fun h => ?_)
  · exact ⟨congrArg (fun n => AV.p (PV.bool n)) (by rw [fitsB, decide_eq_true (by omega : 0 ≤ n)]; rfl), rfl⟩
  · exact ⟨congrArg (fun n => AV.p (PV.bool n)) (by rw [fitsB, decide_eq_false (by omega : ¬ 0 ≤ n)]; rfl), rfl⟩

theorem instr_spec (x : Ins) : pureF Try.prog 78 [.p (insP x)] (.p (.bool (insOk x))) := by
  obtain ⟨o, a, b⟩ := x
  have hA := hasA_spec o
  have hB := hasB_spec o
  have hfa := fits_spec a
  have hfb := fits_spec b
  have hdef : insOk ⟨o, a, b⟩ = (decide (1 ≤ o) && decide (o ≤ 38) && fitsB a && fitsB b && (hasA o || decide (a = 0)) && (hasB o || decide (b = 0))) := rfl
  refine pureF_of f78_ok fun H => ?_
  generalize hasA o = va at hA hdef
  generalize hasB o = vb at hB hdef
  generalize fitsB a = fa at hfa hdef
  generalize fitsB b = fb at hfb hdef
  repeat' ((conv => whnf); first | refine CallVC.pureF hA rfl ?_ | refine CallVC.pureF hB rfl ?_ | refine CallVC.pureF hfa rfl ?_ | refine CallVC.pureF hfb rfl ?_ | refine splitB_t rfl ?_ | refine splitB_f rfl ?_ | refine splitB_dec (fun h => ?_) (fun h => ?_) | refine splitB_eq (fun h => ?_) (fun h => ?_) | refine splitB_intro (fun h => ?_) (fun h => ?_))
  all_goals (try (conv => whnf))
  all_goals refine ⟨congrArg (fun n => AV.p (PV.bool n)) ?_, rfl⟩
  all_goals rw [hdef]
  all_goals clear hA hB hfa hfb hdef
  all_goals first
    | (simp_all; done)
    | (simp_all; omega)
    | (simp_all; intros; omega)
    | (rw [Bool.eq_iff_iff]; simp_all; done)
    | (rw [Bool.eq_iff_iff]; simp_all; omega)

def rightB (n : Int) (m : Bool) : Bool := decide (n = 0) || (m && decide (0 < n) && decide (n ≤ 2147483647))
theorem right_code_spec (n : Int) (m : Bool) : pureF Try.prog 63 [.p (.int .i64 n), .p (.bool m)] (.p (.bool (rightB n m))) := by
  refine pureF_of f63_ok fun H => ?_
  have hdef : rightB n m = (decide (n = 0) || (m && decide (0 < n) && decide (n ≤ 2147483647))) := rfl
  repeat' ((conv => whnf); first | refine splitB_t rfl ?_ | refine splitB_f rfl ?_ | refine splitB_dec (fun h => ?_) (fun h => ?_) | refine splitB_eq (fun h => ?_) (fun h => ?_) | refine splitB_intro (fun h => ?_) (fun h => ?_))
  all_goals (try (conv => whnf))
  all_goals exact ⟨congrArg (fun n => AV.p (PV.bool n)) (by rw [hdef]; simp_all <;> (intros; omega)), rfl⟩

theorem shp_and1 (o : Int) : (IntKind.u8.wrap (BitVec.ofInt 8 (shp o) &&& BitVec.ofInt 8 1).toNat != 0) = hasA o := by
  rw [shp]
  split
  · rename_i h; subst h; decide
  · split
    · rename_i h; rw [h]; decide
    · rename_i h; have h : hasA o = false := by simpa using h
      rw [h]; decide
theorem shp_and2 (o : Int) : (IntKind.u8.wrap (BitVec.ofInt 8 (shp o) &&& BitVec.ofInt 8 2).toNat != 0) = hasB o := by
  rw [shp]
  split
  · rename_i h; subst h; decide
  · rename_i h0
    have hb : hasB o = false := by rw [hasB, decide_eq_false h0]
    rw [hb]
    split <;> decide

theorem codeWrong_spec (x : Ins) : pureF Try.prog 65 [.p (insP x)] (.p (.bool (!insOk x))) := by
  obtain ⟨o, a, b⟩ := x
  have ho := codeOf_spec o
  have hra := right_code_spec a (IntKind.u8.wrap (BitVec.ofInt 8 (shp o) &&& BitVec.ofInt 8 1).toNat != 0)
  have hrb := right_code_spec b (IntKind.u8.wrap (BitVec.ofInt 8 (shp o) &&& BitVec.ofInt 8 2).toNat != 0)
  have hdef : insOk ⟨o, a, b⟩ = (decide (1 ≤ o) && decide (o ≤ 38) && rightB a (hasA o) && rightB b (hasB o)) := by
    simp only [insOk, rightB, fitsB]
    cases hasA o <;> cases hasB o <;> simp <;> rw [Bool.eq_iff_iff] <;> simp <;> omega
  refine pureF_of f65_ok fun H => ?_
  repeat' ((conv => whnf); first | refine CallD.pureF ho rfl ?_ | refine CallD.pureF hra rfl ?_ | refine CallD.pureF hrb rfl ?_ | refine splitB_t rfl ?_ | refine splitB_f rfl ?_ | refine splitB_dec (fun h => ?_) (fun h => ?_) | refine splitB_eq (fun h => ?_) (fun h => ?_) | refine splitB_intro (fun h => ?_) (fun h => ?_))
  all_goals (try (conv => whnf))
  all_goals simp only [shp_and1, shp_and2] at *
  all_goals first
    | exact ⟨congrArg (fun n => AV.p (PV.bool n)) (by rw [hdef]; clear hra hrb ho hdef; simp_all <;> (intros; omega)), trivial⟩
    | exact ⟨congrArg (fun n => AV.p (PV.bool n)) (by rw [hdef]; clear hra hrb ho hdef; simp_all <;> (intros; omega)), rfl⟩

end Go.Proofs.Ythmlninecfjjgaa.AD

namespace Go.Proofs.Ythmlninecfjjgaa.AD
open Go.Proofs
set_option linter.unusedVariables false
set_option linter.unusedSimpArgs false
set_option maxRecDepth 100000

def insSz (x : Ins) : Int := 1 + (if hasA x.op then szN 5 x.a else 0) + (if hasB x.op then szN 5 x.b else 0)
def codeSz : List Ins → Int
  | [] => 0
  | x :: r => insSz x + codeSz r
def txtSz : List ByteArray → Int
  | [] => 0
  | t :: r => szN 5 t.size + t.size + txtSz r
theorem insSz_range (x : Ins) : 1 ≤ insSz x ∧ insSz x ≤ 13 := by
  have h1 := szN_range 5 x.a
  have h2 := szN_range 5 x.b
  simp only [insSz]
  (repeat' split) <;> omega
theorem codeSz_range (C : List Ins) : 0 ≤ codeSz C ∧ codeSz C ≤ 13 * C.length := by
  induction C with
  | nil => simp [codeSz]
  | cons x r ih => have := insSz_range x; simp only [codeSz, List.length_cons]; omega
theorem txtSz_nonneg (T : List ByteArray) : 0 ≤ txtSz T := by
  induction T with
  | nil => simp [txtSz]
  | cons t r ih => have := szN_range 5 t.size; simp only [txtSz]; omega

def hdSz (T : List ByteArray) (C : List Ins) (S : Int) : Int := 3 + szN 5 S + szN 5 T.length + szN 5 C.length
def errP (κ : Int) (T : List ByteArray) (C : List Ins) (S : Int) : Int :=
  if 32768 < C.length ∨ 8192 < T.length then 3
  else if (κ ≠ 1 ∧ κ ≠ 2) ∨ fitsB S = false ∨ C.all insOk = false then 210
  else if 1048576 < hdSz T C S + codeSz C + txtSz T then 3 else 0
def encPg (κ : Int) (T : List ByteArray) (C : List Ins) (S : Int) : PV := .agg [.int .u8 κ, .list 1 (tP T), .list 3 (cP C), .int .i64 S]
theorem cP_get {C : List Ins} {i : Nat} {x : Ins} (h : C[i]? = some x) : (cP C)[i]? = some (insP x) := by rw [cP, List.getElem?_map, h]; rfl
theorem tP_get {T : List ByteArray} {i : Nat} {x : ByteArray} (h : T[i]? = some x) : (tP T)[i]? = some (.str x) := by rw [tP, List.getElem?_map, h]; rfl

theorem insOk_fits {x : Ins} (h : insOk x = true) : (0 ≤ x.a ∧ x.a ≤ 2147483647) ∧ 0 ≤ x.b ∧ x.b ≤ 2147483647 := by
  simp only [insOk, fitsB, Bool.and_eq_true, decide_eq_true_eq] at h
  omega

theorem refCheck21_spec (κ : Int) (T : List ByteArray) (C : List Ins) (S : Int) (hTl : T.length ≤ 1000000000) (hCl : C.length ≤ 1000000000) (hts : ∀ t, t ∈ T → t.size ≤ 1000000000) : pureF Try.prog 50 [.p (encPg κ T C S)] (.p (.int .i64 (errP κ T C S))) := by
  have hT := tP_len T
  have hC := cP_len C
  have hfS := fits_spec S
  refine pureF_of f50_ok fun H => ?_
  (conv => whnf)
  by_cases hlim : 32768 < C.length ∨ 8192 < T.length
  · have e : errP κ T C S = 3 := by rw [errP, if_pos hlim]
    rw [e]
    refine splitB_dec (fun h => ?_) (fun h => ?_)
    · (conv => whnf)
      refine splitB_t rfl ?_
      exact ⟨rfl, rfl⟩
    · (conv => whnf)
      refine splitB_t (decide_eq_true (by omega)) ?_
      exact ⟨rfl, rfl⟩
  · refine splitB_f (decide_eq_false (by omega)) ?_
    (conv => whnf)
    refine splitB_f (decide_eq_false (by omega)) ?_
    (conv => whnf)
    have hsS : 0 ≤ S → S ≤ 2147483647 → _ := fun a b => size_spec S a b
    have hsT := size_spec T.length (by omega) (by omega)
    have hsC := size_spec C.length (by omega) (by omega)
    have hh1 := szN_range 5 S
    have hh2 := szN_range 5 T.length
    have hh3 := szN_range 5 C.length
    have last : (κ = 1 ∨ κ = 2) → fitsB S = true → W Try.prog f50.c50 [(1, .ref (.l 0) 0)] H [.cells [.p (.int .u8 κ), .p (.list 1 (tP T)), .p (.list 3 (cP C)), .p (.int .i64 S)]] (endQ f50 fun r' H' => r' = .p (.int .i64 (errP κ T C S)) ∧ H' = H) := by
      intro hk hS
      have hS' : 0 ≤ S ∧ S ≤ 2147483647 := by simpa [fitsB] using hS
      have e1 : errP κ T C S = if C.all insOk = false then 210 else if 1048576 < hdSz T C S + codeSz C + txtSz T then 3 else 0 := by
        rw [errP, if_neg hlim]
        by_cases h : C.all insOk = false
        · rw [if_pos (.inr (.inr h)), if_pos h]
        · rw [if_neg (by rw [hS]; simp; exact ⟨by omega, by simpa using h⟩), if_neg h]
      (conv => whnf)
      refine CallD.pureF (hsS hS'.1 hS'.2) rfl ?_
      (conv => whnf)
      rw [IntWalk.i64_in (3 + szN 5 S) (by omega), hT]
      refine CallD.pureF hsT rfl ?_
      (conv => whnf)
      rw [IntWalk.i64_in (3 + szN 5 S + szN 5 T.length) (by omega), hC]
      refine CallD.pureF hsC rfl ?_
      (conv => whnf)
      rw [IntWalk.i64_in (3 + szN 5 S + szN 5 T.length + szN 5 C.length) (by omega)]
      have hhd : hdSz T C S = 3 + szN 5 S + szN 5 T.length + szN 5 C.length := rfl
      intro R hR
      have texts : C.all insOk = true → ∀ n0 : Int, n0 = hdSz T C S + codeSz C → (0 ≤ n0 ∧ n0 ≤ 1000000) → W Try.prog f50.c48 [(1, .ref (.l 0) 0), (3, .p (.int .i64 n0))] H [.cells [.p (.int .u8 κ), .p (.list 1 (tP T)), .p (.list 3 (cP C)), .p (.int .i64 S)]] (endQ f50 fun r' H' => r' = .p (.int .i64 (errP κ T C S)) ∧ H' = H) := by
        intro hall n0 hn0 hnb
        rw [if_neg (by rw [hall]; simp), ← hn0] at e1
        (conv => whnf)
        intro R2 hR2
        have key : ∀ (rest : List ByteArray) (i : Nat) (n : Int), T.drop i = rest → 0 ≤ n → n ≤ 2000000000000 → n + txtSz rest = n0 + txtSz T → R2 [(1, .ref (.l 0) 0), (3, .p (.int .i64 n)), (6, .p (.int .i64 i))] H [.cells [.p (.int .u8 κ), .p (.list 1 (tP T)), .p (.list 3 (cP C)), .p (.int .i64 S)]] := by
          intro rest
          induction rest with
          | nil =>
            intro i n hd g0 g1 hq
            have hl := drop_nil hd
            have htot : n = n0 + txtSz T := by simp only [txtSz] at hq; omega
            refine hR2 _ _ _ ?_
            (conv => whnf)
            refine splitB_f (decide_eq_false (by omega)) ?_
            (conv => whnf)
            refine splitB_f rfl ?_
            (conv => whnf)
            refine splitB_dec (fun h => ?_) (fun h => ?_)
            · exact ⟨by rw [e1, if_pos (by omega)], rfl⟩
            · exact ⟨by rw [e1, if_neg (by omega)], rfl⟩
          | cons t r ihr =>
            intro i n hd g0 g1 hq
            obtain ⟨hg, hd', hi⟩ := drop_cons hd
            have hsz := hts t (List.mem_of_getElem? hg)
            have hst := size_spec t.size (by omega) (by omega)
            have hrg := szN_range 5 t.size
            have hnn := txtSz_nonneg r
            simp only [txtSz] at hq
            refine hR2 _ _ _ ?_
            (conv => whnf)
            refine splitB_t (decide_eq_true (by omega)) ?_
            (conv => whnf)
            refine splitB_dec (fun h => ?_) (fun h => ?_)
            · (conv => whnf)
              refine ⟨rfl, .str t, ⟨by omega, tP_get hg⟩, ?_⟩
              (conv => whnf)
              refine CallD.pureF hst rfl ?_
              (conv => whnf)
              rw [IntWalk.i64_in (n + szN 5 t.size) (by omega)]
              refine ⟨rfl, .str t, ⟨by omega, tP_get hg⟩, ?_⟩
              (conv => whnf)
              rw [IntWalk.i64_in (n + szN 5 t.size + t.size) (by omega), IntWalk.i64_in (i + 1) (by omega)]
              exact ihr (i + 1) _ hd' (by omega) (by omega) (by omega)
            · (conv => whnf)
              refine splitB_t (decide_eq_true (by omega)) ?_
              exact ⟨by rw [e1, if_pos (by omega)], rfl⟩
        exact key T 0 n0 rfl hnb.1 (by omega) rfl
      have key : ∀ (rest : List Ins) (i : Nat) (n : Int), C.drop i = rest → 0 ≤ n → n ≤ 22 + 13 * i → n + codeSz rest = hdSz T C S + codeSz C → C.all insOk = rest.all insOk → R [(1, .ref (.l 0) 0), (3, .p (.int .i64 n)), (4, .p (.int .i64 i))] H [.cells [.p (.int .u8 κ), .p (.list 1 (tP T)), .p (.list 3 (cP C)), .p (.int .i64 S)]] := by
        intro rest
        induction rest with
        | nil =>
          intro i n hd g0 g1 hq ha
          have hl := drop_nil hd
          refine hR _ _ _ ?_
          (conv => whnf)
          refine splitB_f (decide_eq_false (by omega)) ?_
          have hr := codeSz_range C
          have q := texts (by rw [ha]; rfl) n (by simp only [codeSz] at hq; omega) (by simp only [codeSz] at hq; omega)
          (conv at q => whnf)
          (conv => whnf)
          exact q
        | cons x r ihr =>
          intro i n hd g0 g1 hq ha
          obtain ⟨hg, hd', hi⟩ := drop_cons hd
          have hins := instr_spec x
          have hA := hasA_spec x.op
          have hB := hasB_spec x.op
          have hrg := insSz_range x
          have hdef : insSz x = 1 + (if hasA x.op then szN 5 x.a else 0) + (if hasB x.op then szN 5 x.b else 0) := rfl
          have hra := szN_range 5 x.a
          have hrb := szN_range 5 x.b
          simp only [codeSz] at hq
          rw [List.all_cons] at ha
          cases hok : insOk x with
          | false =>
            have e2 : errP κ T C S = 210 := by rw [e1, if_pos (by rw [ha, hok]; rfl)]
            rw [hok] at hins
            refine hR _ _ _ ?_
            (conv => whnf)
            refine splitB_t (decide_eq_true (by omega)) ?_
            (conv => whnf)
            refine ⟨rfl, insP x, ⟨by omega, cP_get hg⟩, ?_⟩
            (conv => whnf)
            refine CallVC.pureF hins rfl ?_
            (conv => whnf)
            refine splitB_t rfl ?_
            exact ⟨by rw [e2], rfl⟩
          | true =>
            obtain ⟨⟨a1, a2⟩, b1, b2⟩ := insOk_fits hok
            have hsa := size_spec x.a a1 a2
            have hsb := size_spec x.b b1 b2
            rw [hok, Bool.true_and] at ha
            rw [hok] at hins
            have next := fun n' (hn' : n' = n + insSz x) => ihr (i + 1) n' hd' (by omega) (by push_cast; omega) (by omega) ha
            generalize hasA x.op = va at hA hdef
            generalize hasB x.op = vb at hB hdef
            refine hR _ _ _ ?_
            (conv => whnf)
            refine splitB_t (decide_eq_true (by omega)) ?_
            (conv => whnf)
            refine ⟨rfl, insP x, ⟨by omega, cP_get hg⟩, ?_⟩
            (conv => whnf)
            refine CallVC.pureF hins rfl ?_
            (conv => whnf)
            refine splitB_f rfl ?_
            (conv => whnf)
            rw [IntWalk.i64_in (n + 1) (by omega)]
            refine CallVC.pureF hA rfl ?_
            cases va <;> cases vb
            all_goals simp only [Bool.false_eq_true, if_false, if_true] at hdef
            all_goals repeat' ((conv => whnf); first | refine splitB_t rfl ?_ | refine splitB_f rfl ?_ | refine CallVC.pureF hB rfl ?_ | refine CallVC.pureF hsa rfl ?_ | refine CallVC.pureF hsb rfl ?_)
            all_goals (try (conv => whnf))
            · rw [IntWalk.i64_in (i + 1) (by omega)]
              exact next _ (by omega)
            · rw [IntWalk.i64_in (n + 1 + szN 5 x.b) (by omega), IntWalk.i64_in (i + 1) (by omega)]
              exact next _ (by omega)
            · rw [IntWalk.i64_in (n + 1 + szN 5 x.a) (by omega), IntWalk.i64_in (i + 1) (by omega)]
              exact next _ (by omega)
            · rw [IntWalk.i64_in (n + 1 + szN 5 x.a) (by omega), IntWalk.i64_in (n + 1 + szN 5 x.a + szN 5 x.b) (by omega), IntWalk.i64_in (i + 1) (by omega)]
              exact next _ (by omega)
      exact key C 0 _ rfl (by omega) (by omega) rfl rfl
    have bad : ((κ ≠ 1 ∧ κ ≠ 2) ∨ fitsB S = false) → errP κ T C S = 210 := fun h => by
      rw [errP, if_neg hlim, if_pos]
      rcases h with h | h
      · exact .inl h
      · exact .inr (.inl h)
    rcases (show κ = 1 ∨ κ = 2 ∨ (κ ≠ 1 ∧ κ ≠ 2) by omega) with hk | hk | ⟨n1, n2⟩
    · subst hk
      cases hS : fitsB S with
      | false =>
        rw [hS] at hfS
        repeat' ((conv => whnf); first | refine CallVC.pureF hfS rfl ?_ | refine splitB_t rfl ?_ | refine splitB_f rfl ?_)
        exact ⟨by rw [bad (.inr hS)], rfl⟩
      | true =>
        rw [hS] at hfS
        have q := last (.inl rfl) hS
        (conv at q => whnf)
        (conv => whnf)
        repeat' ((conv => whnf); first | refine CallVC.pureF hfS rfl ?_ | refine splitB_t rfl ?_ | refine splitB_f rfl ?_)
        (conv => whnf)
        exact q
    · subst hk
      cases hS : fitsB S with
      | false =>
        rw [hS] at hfS
        repeat' ((conv => whnf); first | refine CallVC.pureF hfS rfl ?_ | refine splitB_t rfl ?_ | refine splitB_f rfl ?_)
        exact ⟨by rw [bad (.inr hS)], rfl⟩
      | true =>
        rw [hS] at hfS
        have q := last (.inr rfl) hS
        (conv at q => whnf)
        repeat' ((conv => whnf); first | refine CallVC.pureF hfS rfl ?_ | refine splitB_t rfl ?_ | refine splitB_f rfl ?_)
        (conv => whnf)
        exact q
    · have e := bad (.inl ⟨n1, n2⟩)
      rw [e]
      repeat' ((conv => whnf); first | refine splitB_t (bne_iff_ne.2 n1) ?_ | refine splitB_t (bne_iff_ne.2 n2) ?_ | refine splitB_t rfl ?_ | refine splitB_f rfl ?_)
      all_goals (try (conv => whnf))
      all_goals exact ⟨rfl, rfl⟩

end Go.Proofs.Ythmlninecfjjgaa.AD
