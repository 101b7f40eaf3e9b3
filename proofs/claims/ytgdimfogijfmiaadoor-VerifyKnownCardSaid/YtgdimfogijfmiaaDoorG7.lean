/- Chapter 20: trees, and how large they are. -/
import Derived.Test.YtgdimfogijfmiaaDoorG6
import Derived.ChangeArms
import Derived.SizedLaws
import Derived.Test.YtgdimfogijfmiaaDoorG4
import Derived.Lib.Bytealg
import Derived.Laws.Externs
import Derived.Test.YtgdimfogijfmiaaDoorRows
import Derived.WalkKit
import Derived.ProofKit
import Derived.OpenShut
import Derived.ShutString
import Derived.ChangeOld
import Derived.Below
namespace Go.Proofs.YtgdimfogijfmiaaDoor.AD
open Go.Proofs
set_option linter.unusedVariables false
set_option linter.unusedSimpArgs false
set_option maxRecDepth 100000

inductive Ex where
  | mk (op : Int) (text : ByteArray) (args : List Ex)

theorem Ex.ind {motive : Ex → Prop} (h : ∀ o t xs, (∀ a, a ∈ xs → motive a) → motive (.mk o t xs)) (e : Ex) : motive e := by
  match e with
  | .mk o t xs => exact h o t xs fun a ha => Ex.ind h a
termination_by SizeOf.sizeOf e
decreasing_by
  have := List.sizeOf_lt_of_mem ha
  simp only [Ex.mk.sizeOf_spec]
  omega

mutual
def enc : Ex → PV
  | .mk o t xs => .agg [.int .u8 o, .str t, .list 3 (encs xs)]
def encs : List Ex → List PV
  | [] => []
  | a :: r => enc a :: encs r
end

theorem encs_map : ∀ l, encs l = l.map enc
  | [] => rfl
  | a :: r => by rw [encs, encs_map r]; rfl

mutual
def size : Ex → Int → Int
  | .mk _ _ xs, most => sizes xs most 1
def sizes : List Ex → Int → Int → Int
  | [], most, n => n
  | a :: r, most, n => if n ≤ most then sizes r most (n + size a (most - n)) else n
end

theorem sizes_le : (∀ e most, 1 ≤ size e most ∧ (size e most ≤ 1 ∨ size e most ≤ most + 1)) ∧ ∀ l most n, 1 ≤ n → n ≤ sizes l most n ∧ (sizes l most n ≤ n ∨ sizes l most n ≤ most + 1) := by
  have main : ∀ l, (∀ a, a ∈ l → ∀ most, 1 ≤ size a most ∧ (size a most ≤ 1 ∨ size a most ≤ most + 1)) → ∀ most n, 1 ≤ n → n ≤ sizes l most n ∧ (sizes l most n ≤ n ∨ sizes l most n ≤ most + 1) := by
    intro l
    induction l with
    | nil => intro _ most n h; simp only [sizes]; omega
    | cons a r ih =>
      intro hl most n h
      simp only [sizes]
      split
      · have := hl a (by simp) (most - n)
        have := ih (fun b hb => hl b (by simp [hb])) most (n + size a (most - n)) (by omega)
        omega
      · omega
  have one : ∀ e most, 1 ≤ size e most ∧ (size e most ≤ 1 ∨ size e most ≤ most + 1) := by
    intro e
    induction e using Ex.ind with
    | h o t xs ih => intro most; simp only [size]; have := main xs ih most 1 (by omega); omega
  exact ⟨one, fun l => main l fun a _ => one a⟩

/-- Nothing in it is larger than can be counted. -/
inductive Fits : Ex → Prop
  | mk (o : Int) (t : ByteArray) (xs : List Ex) : 0 ≤ o → (t.size : Int) ≤ 9223372036854775807 → (xs.length : Int) ≤ 9223372036854775807 → (∀ a, a ∈ xs → Fits a) → Fits (.mk o t xs)

theorem encs_get {xs : List Ex} {i : Nat} {a : Ex} (h : xs[i]? = some a) : (encs xs)[i]? = some (enc a) := by rw [encs_map, List.getElem?_map, h]; rfl
theorem encs_len (xs : List Ex) : (encs xs).length = xs.length := by rw [encs_map, List.length_map]

end Go.Proofs.YtgdimfogijfmiaaDoor.AD

namespace Go.Proofs.YtgdimfogijfmiaaDoor.AD
open Go.Proofs
set_option linter.unusedVariables false
set_option linter.unusedSimpArgs false
set_option maxRecDepth 100000

/-- Cells that stand for these. -/
def CellsIn (W : World) (cs : List Value) (ps : List PV) : Prop := cs.length = ps.length ∧ ∀ (j : Nat) (x : Value) (p : PV), cs[j]? = some x → ps[j]? = some p → VP (fun _ => False) W x p ∧ x.oneCell' = true

theorem cells?_out {w : World} {base : Nat} {a : Addr} {n : Nat} {cs : List Value} (h : w.cells? base a n = some cs) : cs.length = n ∧ ∀ (i : Nat) (u : Value), cs[i]? = some u → w.cell? (a.add i) = some u := by
  unfold World.cells? at h
  split at h
  · have hl := mapM_some_length h
    rw [List.length_range] at hl
    refine ⟨hl, fun i u hu => ?_⟩
    have hi : i < n := by
      have := (List.getElem?_eq_some_iff.1 hu).1
      omega
    have := mapM_some_get h i i (by simp [hi])
    rw [this]; exact hu
  · cases h

theorem cell_spot {w : World} {a : Addr} {v : Value} (h : w.cell? a = some v) : a.spot = none ∧ a.block < w.heap.size := by
  unfold World.cell? at h
  split at h
  · rename_i hb
    split at h
    · cases h
    · rename_i hs
      exact ⟨by simpa using hs, (Array.getElem?_eq_some_iff.1 hb).1⟩
  · cases h

/-- A row of elements of more cells than one, each read. -/
theorem row_in {W : World} {base : Nat} {a : Addr} {len cap sz : Nat} {α : Type} (cellsOf : α → List PV) (good : α → Prop) (hsz : ∀ x, (cellsOf x).length = sz) (h0 : 0 < sz) (hc : len ≤ cap)
    (hel : ∀ i, i < len → ∃ cs x, W.cells? base (a.add (i * sz)) sz = some cs ∧ CellsIn W cs (cellsOf x) ∧ good x) :
    ∃ xs : List α, xs.length = len ∧ (∀ x, x ∈ xs → good x) ∧ VP (fun _ => False) W (.slice (some a) len cap) (.list sz (xs.map fun x => .agg (cellsOf x))) := by
  have key : ∀ m, m ≤ len → ∃ xs : List α, xs.length = m ∧ ∀ (j : Nat) (x : α), xs[j]? = some x → good x ∧ ∃ cs, W.cells? base (a.add (j * sz)) sz = some cs ∧ CellsIn W cs (cellsOf x) := by
    intro m
    induction m with
    | zero => intro _; exact ⟨[], rfl, fun j x h => by simp at h⟩
    | succ m ih =>
      intro hm
      obtain ⟨xs, hl, hx⟩ := ih (by omega)
      obtain ⟨cs, x, h1, h2, h3⟩ := hel m (by omega)
      refine ⟨xs ++ [x], by simp [hl], fun j z hz => ?_⟩
      rcases Nat.lt_or_ge j xs.length with hj | hj
      · rw [List.getElem?_append_left hj] at hz; exact hx j z hz
      · rw [List.getElem?_append_right hj] at hz
        have hj2 : j = m := by have := get_lt hz; simp at this; omega
        subst hj2
        rw [hl, Nat.sub_self] at hz
        obtain rfl : x = z := by simpa using hz
        exact ⟨h3, cs, h1, h2⟩
  obtain ⟨xs, hl, hx⟩ := key len (Nat.le_refl _)
  refine ⟨xs, hl, fun x hm => ?_, ?_⟩
  · obtain ⟨j, hj⟩ := List.mem_iff_getElem?.1 hm
    exact (hx j x hj).1
  · rcases Nat.eq_zero_or_pos len with h | h
    · subst h
      obtain rfl : xs = [] := List.length_eq_zero_iff.1 hl
      exact .list0 sz _ _ fun e => by cases e
    · obtain ⟨_, cs0, g1, g2⟩ := hx 0 xs[0] (List.getElem?_eq_getElem (by omega))
      obtain ⟨g3, g4⟩ := cells?_out g1
      have g5 := g4 0 cs0[0] (List.getElem?_eq_getElem (by omega))
      have hadd : (a.add (0 * sz)).add 0 = a := by simp [Addr.add]
      rw [hadd] at g5
      obtain ⟨g6, g7⟩ := cell_spot g5
      obtain ⟨b, off, sp⟩ := a
      simp only at g6 g7
      subst g6
      have hch : ∀ j, ∃ v : Value, ∀ x, xs[j]? = some x → v.cells.size = sz ∧ (∀ (i : Nat) (u : Value), v.cells[i]? = some u → u.oneCell' = true ∧ W.cell? ⟨b, off + (j * sz + i), none⟩ = some u) ∧ VP (fun _ => False) W v (.agg (cellsOf x)) := fun j => by
        by_cases hj : j < xs.length
        · obtain ⟨_, cs, k1, k2⟩ := hx j xs[j] (List.getElem?_eq_getElem hj)
          obtain ⟨k3, k4⟩ := cells?_out k1
          refine ⟨.agg cs.toArray, fun x hxj => ?_⟩
          rw [List.getElem?_eq_getElem hj] at hxj
          cases hxj
          refine ⟨by simp [Value.cells, k3], fun i u hu => ?_, .agg _ _ (by simp [k3, hsz]) (fun i u p hu hp => ?_) fun i u hu => ?_⟩
          · have hu' : cs[i]? = some u := by simpa [Value.cells] using hu
            have hi : i < (cellsOf xs[j]).length := by have := get_lt hu'; rw [hsz]; omega
            refine ⟨(k2.2 i u _ hu' (List.getElem?_eq_getElem hi)).2, ?_⟩
            have := k4 i u hu'
            rw [← this]
            simp only [add_none, Nat.add_assoc]
          · exact (k2.2 i u p (by simpa using hu) hp).1
          · have hu' : cs[i]? = some u := by simpa using hu
            have hi : i < (cellsOf xs[j]).length := by have := get_lt hu'; rw [hsz]; omega
            exact (k2.2 i u _ hu' (List.getElem?_eq_getElem hi)).2
        · exact ⟨default, fun x hxj => absurd (get_lt hxj) hj⟩
      have hv := VP.list (M := fun _ => False) (w := W) b off cap sz (xs.map fun x => PV.agg (cellsOf x)) (fun j => Classical.choose (hch j)) (fun h => h) g7 (by simp [hl]; exact hc)
        (fun j e he => by
          rw [List.getElem?_map] at he
          obtain ⟨x, hxj, rfl⟩ := Option.map_eq_some_iff.1 he
          exact (Classical.choose_spec (hch j) x hxj).1)
        (fun j e he => by
          rw [List.getElem?_map] at he
          obtain ⟨x, hxj, rfl⟩ := Option.map_eq_some_iff.1 he
          exact (Classical.choose_spec (hch j) x hxj).2.1)
        (fun j e he => by
          rw [List.getElem?_map] at he
          obtain ⟨x, hxj, rfl⟩ := Option.map_eq_some_iff.1 he
          exact (Classical.choose_spec (hch j) x hxj).2.2)
      rw [List.length_map, hl] at hv
      exact hv

def exCells : Ex → List PV
  | .mk o t xs => [.int .u8 o, .str t, .list 3 (encs xs)]
theorem enc_cells (e : Ex) : enc e = .agg (exCells e) := by cases e; rfl

/-- The types that a tree has. -/
structure ExTypes (P : Program) (tE tO tT tA : TypeId) : Prop where
  fs : ∃ f0 f1 f2 : Field, P.underlying tE = some (.struct #[f0, f1, f2]) ∧ (f0.type = tO ∧ f0.offset = 0) ∧ (f1.type = tT ∧ f1.offset = 1) ∧ (f2.type = tA ∧ f2.offset = 2)
  o : P.underlying tO = some (.int .u8)
  t : P.underlying tT = some .string
  a : P.underlying tA = some (.slice tE)
  sizes : P.cellsOf tE = 3 ∧ P.cellsOf tO = 1 ∧ P.cellsOf tT = 1 ∧ P.cellsOf tA = 1

theorem open_ex {P : Program} {tE tO tT tA : TypeId} (hT : ExTypes P tE tO tT tA) {H : Type} {encH : TypeId × Value → H} {W : World} {base : Nat} {spare : Nat → Bool} {held : Bool} :
    ∀ (fuel : Nat) (cs : List Value) (y : DataW H) (p : List MemPlace), DataW.trod encH P W base spare held fuel tE cs = some (y, p) → ∃ e : Ex, Fits e ∧ CellsIn W cs (exCells e) := by
  intro fuel
  induction fuel using Nat.strongRecOn with
  | _ fuel ih =>
    intro cs y p h
    obtain ⟨f0, f1, f2, hE, ⟨a1, a2⟩, ⟨b1, b2⟩, c1, c2⟩ := hT.fs
    obtain ⟨s1, s2, s3, s4⟩ := hT.sizes
    obtain ⟨xs, n, rfl, _, hl, hxl, hf⟩ := DataW.trod_struct hE h
    rw [s1] at hl
    have hxl : xs.length = 3 := hxl
    match cs, hl with
    | [u0, u1, u2], _ =>
    have g0 := hf 0 f0 rfl
    have g1 := hf 1 f1 rfl
    have g2 := hf 2 f2 rfl
    rw [a1, a2, s2, List.getElem?_eq_getElem (by omega)] at g0
    rw [b1, b2, s3, List.getElem?_eq_getElem (by omega)] at g1
    rw [c1, c2, s4, List.getElem?_eq_getElem (by omega)] at g2
    obtain ⟨o, ho, _, hw⟩ := DataW.trod_int hT.o g0
    obtain ⟨t, ht, _, hts⟩ := DataW.trod_string hT.t g1
    obtain rfl : u0 = .int .u8 o := by simpa using ho
    obtain rfl : u1 = .string t := by simpa using ht
    have ho0 : 0 ≤ o := by
      simp only [Lit.wf, Bool.and_eq_true, decide_eq_true_eq] at hw
      have h1 := hw.1
      have : IntKind.u8.min = 0 := by decide
      omega
    have hmax : maxLen ≤ 9223372036854775807 := by decide
    have fin : ∀ ys : List Ex, (ys.length : Int) ≤ 9223372036854775807 → (∀ a, a ∈ ys → Fits a) → VP (fun _ => False) W u2 (.list 3 (encs ys)) → u2.oneCell' = true → ∃ e : Ex, Fits e ∧ CellsIn W [.int .u8 o, .string t, u2] (exCells e) := fun ys h1 h2 h3 h4 => by
      refine ⟨.mk o t ys, .mk o t ys ho0 (by omega) h1 h2, rfl, fun j x q hx hq => ?_⟩
      match j, hx, hq with
      | 0, hx, hq => cases hx; cases hq; exact ⟨.int _ _, rfl⟩
      | 1, hx, hq => cases hx; cases hq; exact ⟨.str _, rfl⟩
      | 2, hx, hq => cases hx; cases hq; exact ⟨h3, h4⟩
    rcases DataW.trod_slice hT.a g2 with ⟨hs, _⟩ | ⟨a, len, cap, elems, rest, m, rfl, hs, _, _, hlc, hcm, hel, hr, _⟩
    · obtain rfl : u2 = .slice none 0 0 := by simpa using hs
      exact fin [] (by simp) (fun a ha => by cases ha) (.list0 3 _ _ fun _ => rfl) rfl
    · obtain rfl : u2 = .slice (some a) len cap := by simpa using hs
      rw [s1] at hr
      obtain ⟨ys, hyl, hy, hv⟩ := row_in (W := W) (base := base) (a := a) (len := len) (cap := cap) (sz := 3) exCells Fits (fun x => by cases x; rfl) (by omega) hlc fun i hi => by
        have h1 := hr i hi
        rw [List.getElem?_eq_getElem (by omega)] at h1
        obtain ⟨c, hc1, hc2⟩ := Option.bind_eq_some_iff.1 h1
        obtain ⟨e, he1, he2⟩ := ih m (by omega) c _ _ hc2
        exact ⟨c, e, hc1, he2, he1⟩
      have e1 : (ys.map fun x => PV.agg (exCells x)) = encs ys := by
        rw [encs_map]
        exact List.map_congr_left fun x _ => (enc_cells x).symm
      rw [e1] at hv
      exact fin ys (by omega) hy hv rfl

end Go.Proofs.YtgdimfogijfmiaaDoor.AD

namespace Go.Proofs.YtgdimfogijfmiaaDoor.AD
open Go.Proofs
set_option linter.unusedVariables false
set_option linter.unusedSimpArgs false
set_option maxRecDepth 100000

def letterB (n : Int) : Bool := (decide (97 ≤ n) && decide (n ≤ 122)) || (decide (65 ≤ n) && decide (n ≤ 90)) || decide (n = 95)
def digitB (n : Int) : Bool := decide (48 ≤ n) && decide (n ≤ 57)

theorem refLetter_spec (n : Int) : pureF Tryd.prog 81 [.p (.int .u8 n)] (.p (.bool (letterB n))) := by
  refine pureF_of f81_ok fun H => ?_
  repeat' ((conv => whnf); (first | refine splitB_t rfl ?_ | refine splitB_f rfl ?_ | refine splitB_dec (fun h => ?_) (fun h => ?_) | refine splitB_eq (fun h => ?_) (fun h => ?_) | refine splitB_ne (fun h => ?_) (fun h => ?_) | refine splitB_intro (fun h => ?_) (fun h => ?_)))
  all_goals exact ⟨congrArg (fun b => AV.p (PV.bool b)) (by rw [Bool.eq_iff_iff]; simp [letterB] <;> omega), rfl⟩
theorem letter_spec (n : Int) : pureF Tryd.prog 85 [.p (.int .u8 n)] (.p (.bool (letterB n))) := by
  refine pureF_of f85_ok fun H => ?_
  repeat' ((conv => whnf); (first | refine splitB_t rfl ?_ | refine splitB_f rfl ?_ | refine splitB_dec (fun h => ?_) (fun h => ?_) | refine splitB_eq (fun h => ?_) (fun h => ?_) | refine splitB_ne (fun h => ?_) (fun h => ?_) | refine splitB_intro (fun h => ?_) (fun h => ?_)))
  all_goals exact ⟨congrArg (fun b => AV.p (PV.bool b)) (by rw [Bool.eq_iff_iff]; simp [letterB] <;> omega), rfl⟩
theorem refDigit_spec (n : Int) : pureF Tryd.prog 82 [.p (.int .u8 n)] (.p (.bool (digitB n))) := by
  refine pureF_of f82_ok fun H => ?_
  repeat' ((conv => whnf); (first | refine splitB_t rfl ?_ | refine splitB_f rfl ?_ | refine splitB_dec (fun h => ?_) (fun h => ?_) | refine splitB_eq (fun h => ?_) (fun h => ?_) | refine splitB_ne (fun h => ?_) (fun h => ?_) | refine splitB_intro (fun h => ?_) (fun h => ?_)))
  all_goals exact ⟨congrArg (fun b => AV.p (PV.bool b)) (by rw [Bool.eq_iff_iff]; simp [digitB] <;> omega), rfl⟩
theorem digit_spec (n : Int) : pureF Tryd.prog 88 [.p (.int .u8 n)] (.p (.bool (digitB n))) := by
  refine pureF_of f88_ok fun H => ?_
  repeat' ((conv => whnf); (first | refine splitB_t rfl ?_ | refine splitB_f rfl ?_ | refine splitB_dec (fun h => ?_) (fun h => ?_) | refine splitB_eq (fun h => ?_) (fun h => ?_) | refine splitB_ne (fun h => ?_) (fun h => ?_) | refine splitB_intro (fun h => ?_) (fun h => ?_)))
  all_goals exact ⟨congrArg (fun b => AV.p (PV.bool b)) (by rw [Bool.eq_iff_iff]; simp [digitB] <;> omega), rfl⟩

def arityI (op : Int) : Int :=
  if op = 1 ∨ op = 2 ∨ op = 5 ∨ op = 7 ∨ op = 26 ∨ op = 27 then 0
  else if op = 3 ∨ op = 6 ∨ op = 8 ∨ op = 9 ∨ op = 25 then 1
  else if 1 ≤ op ∧ op ≤ 27 then 2 else -1
end Go.Proofs.YtgdimfogijfmiaaDoor.AD

namespace Go.Proofs.YtgdimfogijfmiaaDoor.AD
open Go.Proofs
set_option linter.unusedVariables false
set_option linter.unusedSimpArgs false
set_option maxRecDepth 100000

def neS (s : ByteArray) : Bool := !(s.toList == (⟨#[]⟩ : ByteArray).toList)
def digitsB (s : ByteArray) : Bool := (s.data.toList.all fun c => digitB c.toNat) && neS s
def nameB (s : ByteArray) : Bool := (match s.data.toList with | [] => false | c :: r => letterB c.toNat && r.all fun c => letterB c.toNat || digitB c.toNat)

theorem sz_lt {s : ByteArray} {i : Nat} {r : List UInt8} {c : UInt8} (h : s.data.toList.drop i = c :: r) : i < s.size := by rw [ba_size]; exact (drop_cons h).2.2
theorem sz_le {s : ByteArray} {i : Nat} (h : s.data.toList.drop i = []) : s.size ≤ i := by rw [ba_size]; exact drop_nil h

theorem refDigits_spec (s : ByteArray) (hs : (s.size : Int) ≤ 9223372036854775807) : pureF Tryd.prog 83 [.p (.str s)] (.p (.bool (digitsB s))) := by
  refine pureF_of f83_ok fun H => ?_
  (conv => whnf)
  intro R hR
  have key : ∀ (rest : List UInt8) (i : Nat), s.data.toList.drop i = rest → ((rest.all fun c => digitB c.toNat) && neS s) = digitsB s → R [(0, .p (.str s)), (3, .p (.int .i64 i))] H [] := by
    intro rest
    induction rest with
    | nil =>
      intro i hd hq
      have hl := sz_le hd
      refine hR _ _ _ ?_
      (conv => whnf)
      refine splitB_f (decide_eq_false (by omega)) ?_
      exact ⟨by rw [← hq]; rfl, rfl⟩
    | cons c r ih =>
      intro i hd hq
      obtain ⟨hg, hd', _⟩ := drop_cons hd
      have hl := sz_lt hd
      refine hR _ _ _ ?_
      (conv => whnf)
      refine splitB_t (decide_eq_true (by omega)) ?_
      (conv => whnf)
      refine ⟨c, ⟨by omega, hg⟩, ?_⟩
      (conv => whnf)
      have bad : digitB c.toNat = false → digitsB s = false := fun h => by rw [← hq, List.all_cons, h]; rfl
      refine splitB_dec (fun h => ?_) (fun h => ?_)
      · (conv => whnf)
        refine splitB_t rfl ?_
        exact ⟨by rw [bad (by simp [digitB]; omega)], rfl⟩
      · (conv => whnf)
        refine ⟨c, ⟨by omega, hg⟩, ?_⟩
        (conv => whnf)
        refine splitB_dec (fun h2 => ?_) (fun h2 => ?_)
        · exact ⟨by rw [bad (by simp [digitB]; omega)], rfl⟩
        · (conv => whnf)
          rw [IntWalk.i64_in _ (by omega)]
          refine ih (i + 1) hd' ?_
          rw [← hq, List.all_cons, show digitB c.toNat = true by simp [digitB]; omega, Bool.true_and]
  exact key _ 0 rfl rfl

theorem neS_iff (s : ByteArray) : neS s = !s.data.toList.isEmpty := by
  unfold neS
  rw [ba_toList, ba_toList]
  cases s.data.toList <;> rfl

theorem refName_spec (s : ByteArray) (hs : (s.size : Int) ≤ 9223372036854775807) : pureF Tryd.prog 68 [.p (.str s)] (.p (.bool (nameB s))) := by
  refine pureF_of f68_ok fun H => ?_
  (conv => whnf)
  intro R hR
  have key : ∀ (rest : List UInt8) (i : Nat), s.data.toList.drop (i + 1) = rest → nameB s = (neS s && rest.all fun c => letterB c.toNat || digitB c.toNat) → R [(0, .p (.str s)), (3, .p (.int .i64 (i + 1 : Nat)))] H [] := by
    intro rest
    induction rest with
    | nil =>
      intro i hd hq
      have hl := sz_le hd
      refine hR _ _ _ ?_
      (conv => whnf)
      refine splitB_f (decide_eq_false (by omega)) ?_
      exact ⟨by rw [hq, List.all_nil, Bool.and_true]; rfl, rfl⟩
    | cons c r ih =>
      intro i hd hq
      obtain ⟨hg, hd', _⟩ := drop_cons hd
      have hl := sz_lt hd
      rw [List.all_cons] at hq
      refine hR _ _ _ ?_
      (conv => whnf)
      refine splitB_t (decide_eq_true (by omega)) ?_
      (conv => whnf)
      refine ⟨c, ⟨by omega, hg⟩, ?_⟩
      (conv => whnf)
      refine CallVC.pureF (refLetter_spec _) rfl ?_
      (conv => whnf)
      refine splitB_intro (fun h => ?_) (fun h => ?_)
      · have h : letterB ↑c.toNat = false := by simpa using h
        rw [h, Bool.false_or] at hq
        (conv => whnf)
        refine splitB_f (beq_eq_false_iff_ne.2 (by omega)) ?_
        (conv => whnf)
        refine ⟨c, ⟨by omega, hg⟩, ?_⟩
        (conv => whnf)
        refine CallVC.pureF (refDigit_spec _) rfl ?_
        (conv => whnf)
        refine splitB_intro (fun h2 => ?_) (fun h2 => ?_)
        · have h2 : digitB ↑c.toNat = false := by simpa using h2
          exact ⟨by rw [hq, h2, Bool.false_and, Bool.and_false], rfl⟩
        · have h2 : digitB ↑c.toNat = true := by simpa using h2
          (conv => whnf)
          rw [IntWalk.i64_in _ (by omega)]
          exact ih (i + 1) hd' (by rw [hq, h2, Bool.true_and])
      · have h : letterB ↑c.toNat = true := by simpa using h
        (conv => whnf)
        refine splitB_f rfl ?_
        (conv => whnf)
        rw [IntWalk.i64_in _ (by omega)]
        exact ih (i + 1) hd' (by rw [hq, h, Bool.true_or, Bool.true_and])
  cases hd : s.data.toList with
  | nil =>
    have hl : s.size = 0 := by rw [ba_size, hd]; rfl
    refine hR _ _ _ ?_
    (conv => whnf)
    refine splitB_f (decide_eq_false (by omega)) ?_
    refine ⟨congrArg (fun b => AV.p (PV.bool b)) ?_, rfl⟩
    show neS s = _
    rw [neS_iff, nameB, hd]
    rfl
  | cons c r =>
    have hl : 0 < s.size := by rw [ba_size, hd]; simp
    have hne : neS s = true := by rw [neS_iff, hd]; rfl
    have hq : nameB s = (letterB c.toNat && r.all fun c => letterB c.toNat || digitB c.toNat) := by rw [nameB, hd]
    refine hR _ _ _ ?_
    (conv => whnf)
    refine splitB_t (decide_eq_true (by omega)) ?_
    (conv => whnf)
    refine ⟨c, ⟨by omega, by rw [hd]; rfl⟩, ?_⟩
    (conv => whnf)
    refine CallVC.pureF (refLetter_spec _) rfl ?_
    (conv => whnf)
    refine splitB_intro (fun h => ?_) (fun h => ?_)
    · have h : letterB ↑c.toNat = false := by simpa using h
      (conv => whnf)
      refine splitB_t rfl ?_
      (conv => whnf)
      refine splitB_t rfl ?_
      exact ⟨by rw [hq, h, Bool.false_and], rfl⟩
    · have h : letterB ↑c.toNat = true := by simpa using h
      (conv => whnf)
      refine splitB_f rfl ?_
      (conv => whnf)
      refine key r 0 (by rw [hd]; rfl) ?_
      rw [hq, h, hne]

/-! ### the program's own -/
theorem nameFn_spec (n : Int) : pureF Tryd.prog 87 [.p (.int .u8 n)] (.p (.bool (letterB n || digitB n))) := by
  refine pureF_of f87_ok fun H => ?_
  (conv => whnf)
  refine CallVC.pureF (letter_spec _) rfl ?_
  (conv => whnf)
  refine splitB_intro (fun h => ?_) (fun h => ?_)
  · exact ⟨by rw [h, Bool.true_or], rfl⟩
  · (conv => whnf)
    refine CallVC.pureF (digit_spec _) rfl ?_
    exact ⟨by rw [h, Bool.false_or], rfl⟩

/-- How far a text goes on with such bytes. -/
def whileL (p : UInt8 → Bool) : List UInt8 → Nat
  | [] => 0
  | c :: r => if p c then whileL p r + 1 else 0

theorem while_spec (s : ByteArray) (hs : (s.size : Int) ≤ 9223372036854775807) (f : Nat) (hf : enters Tryd.prog f = true) (p : UInt8 → Bool) (hp : ∀ c : UInt8, pureF Tryd.prog f [.p (.int .u8 c.toNat)] (.p (.bool (p c)))) (id : Nat) (more : List AV) (H : List Ob) (hH : H[id]? = some (.cells (.p (.str s) :: more))) (i : Nat) (hi : i ≤ s.size) :
    callA Tryd.prog 86 [.ref (.b id) 0, .p (.int .i64 i), .p (.fn (.func f))] H fun r H' => r = .p (.int .i64 (i + whileL p (s.data.toList.drop i) : Nat)) ∧ H' = H := by
  refine sound f86_ok ?_
  (conv => whnf)
  intro R hR
  have key : ∀ (rest : List UInt8) (j : Nat), s.data.toList.drop j = rest → j ≤ s.size → j + whileL p rest = i + whileL p (s.data.toList.drop i) → R [(0, .ref (.b id) 0), (1, .p (.int .i64 j)), (2, .p (.fn (.func f)))] H [] := by
    intro rest
    induction rest with
    | nil =>
      intro j hd hj hq
      have hl := sz_le hd
      refine hR _ _ _ ?_
      (conv => whnf)
      refine atK_in _ _ _ _ hH ?_
      (conv => whnf)
      refine splitB_f (decide_eq_false (by omega)) ?_
      (conv => whnf)
      exact ⟨by rw [← hq]; rfl, rfl⟩
    | cons c r ih =>
      intro j hd hj hq
      obtain ⟨hg, hd', _⟩ := drop_cons hd
      have hl := sz_lt hd
      refine hR _ _ _ ?_
      (conv => whnf)
      refine atK_in _ _ _ _ hH ?_
      (conv => whnf)
      refine splitB_t (decide_eq_true (by omega)) ?_
      (conv => whnf)
      refine atK_in _ _ _ _ hH ?_
      (conv => whnf)
      refine ⟨c, ⟨by omega, hg⟩, ?_⟩
      (conv => whnf)
      refine ⟨hf, ?_⟩
      refine CallVC.pureF (hp c) rfl ?_
      (conv => whnf)
      refine splitB_intro (fun h => ?_) (fun h => ?_)
      · (conv => whnf)
        rw [IntWalk.i64_in _ (by omega)]
        refine ih (j + 1) hd' (by omega) ?_
        rw [← hq, whileL, if_pos h]; omega
      · (conv => whnf)
        rw [whileL, h] at hq
        exact ⟨by rw [← hq]; rfl, rfl⟩
  exact key _ i rfl hi rfl

theorem whileL_all (p : UInt8 → Bool) : ∀ l : List UInt8, decide (whileL p l = l.length) = l.all p
  | [] => rfl
  | c :: r => by
    rw [whileL, List.all_cons]
    cases h : p c with
    | false => simp
    | true => rw [if_pos rfl, ← whileL_all p r]; simp

theorem Name_spec (s : ByteArray) (hs : (s.size : Int) ≤ 9223372036854775807) : pureF Tryd.prog 77 [.p (.str s)] (.p (.bool (nameB s))) := by
  refine pureF_of f77_ok fun H => ?_
  cases hd : s.data.toList with
  | nil =>
    have he : s.toList = (⟨#[]⟩ : ByteArray).toList := by rw [ba_ext, hd]
    (conv => whnf)
    refine splitB_t (by rw [he]; exact beq_self_eq_true _) ?_
    (conv => whnf)
    refine splitB_t rfl ?_
    exact ⟨by rw [nameB, hd], rfl⟩
  | cons c r =>
    have he : (s.toList == (⟨#[]⟩ : ByteArray).toList) = false := by rw [ba_toList, hd, ba_toList]; rfl
    have hl : s.size = r.length + 1 := by rw [ba_size, hd]; rfl
    have hq : nameB s = (letterB c.toNat && r.all fun c => letterB c.toNat || digitB c.toNat) := by rw [nameB, hd]
    (conv => whnf)
    refine splitB_f he ?_
    (conv => whnf)
    refine ⟨c, ⟨by omega, by rw [hd]; rfl⟩, ?_⟩
    (conv => whnf)
    refine CallVC.pureF (letter_spec _) rfl ?_
    (conv => whnf)
    refine splitB_intro (fun h => ?_) (fun h => ?_)
    · have h : letterB ↑c.toNat = false := by simpa using h
      exact ⟨by rw [hq, h, Bool.false_and], rfl⟩
    · have h : letterB ↑c.toNat = true := by simpa using h
      (conv => whnf)
      refine CallVC.pure (e := .int .i64 (1 + whileL (fun c => letterB c.toNat || digitB c.toNat) (s.data.toList.drop 1) : Nat)) (while_spec s hs 87 (by kernel_rfl) (fun c => letterB c.toNat || digitB c.toNat) (fun c => nameFn_spec _) H.length [.p (.int .i64 0)] _ ?_ 1 (by omega)) ?_
      · simp [flat, Ob.close, AV.closes, AV.close]
      · refine ⟨congrArg (fun b => AV.p (PV.bool b)) ?_, rfl⟩
        rw [hq, h, Bool.true_and, ← whileL_all, hd, List.drop_succ_cons, List.drop_zero, Bool.eq_iff_iff]
        simp
        omega

end Go.Proofs.YtgdimfogijfmiaaDoor.AD

namespace Go.Proofs.YtgdimfogijfmiaaDoor.AD
open Go.Proofs
set_option linter.unusedVariables false
set_option linter.unusedSimpArgs false
set_option maxRecDepth 100000

theorem ixs_ok (s : ByteArray) (c : UInt8) : XOk Tryd.prog 110 [.str s, .int .u8 c.toNat] (.int .i64 (Lib.indexByte s.data.toList c)) := by
  refine ⟨fun M w xs hl hx => ⟨.int .i64 (Lib.indexByte s.data.toList c), ?_, .int _ _⟩⟩
  have hl2 : xs.size = 2 := hl
  have h0 := hx 0 xs[0] _ (Array.getElem?_eq_getElem (by omega)) rfl
  have h1 := hx 1 xs[1] _ (Array.getElem?_eq_getElem (by omega)) rfl
  have he : xs = #[.string s, .int .u8 c.toNat] := by
    have e0 : xs[0] = .string s := by generalize xs[0] = x at h0; cases h0; rfl
    have e1 : xs[1] = .int .u8 c.toNat := by generalize xs[1] = x at h1; cases h1; rfl
    apply Array.ext
    · exact hl2
    · intro i h1 h2
      match i, h1, h2 with
      | 0, _, _ => exact e0
      | 1, _, _ => exact e1
  subst he
  rw [run_callFunc_extern Tryd.func110 (by kernel_rfl) (by kernel_rfl) (by kernel_rfl) (e := Extern.BytealgIndexByte.indexByte) (by kernel_rfl), Lib.run_indexByteString]
  simp [Result.andThen]

theorem IndexByte_spec (s : ByteArray) (c : UInt8) : pureF Tryd.prog 103 [.p (.str s), .p (.int .u8 c.toNat)] (.p (.int .i64 (Lib.indexByte s.data.toList c))) := by
  refine pureF_of f103_ok fun H => ?_
  (conv => whnf)
  exact ⟨_, ixs_ok s c, rfl, rfl⟩

theorem Index_spec (s : ByteArray) (c : UInt8) : pureF Tryd.prog 98 [.p (.str s), .p (.str ⟨#[c]⟩)] (.p (.int .i64 (Lib.indexByte s.data.toList c))) := by
  refine pureF_of f98_ok fun H => ?_
  (conv => whnf)
  refine splitB_f rfl ?_
  (conv => whnf)
  refine splitB_eq (fun h => ?_) (fun h => ?_)
  · have h2 : s.data.toList = [c] := by rw [← ba_toList, ← h, ba_toList]
    exact ⟨by rw [h2]; simp [Lib.indexByte], rfl⟩
  (conv => whnf)
  refine splitB_t rfl ?_
  (conv => whnf)
  refine ⟨c, ⟨by omega, rfl⟩, ?_⟩
  (conv => whnf)
  refine CallVC.pureF (IndexByte_spec s c) rfl ?_
  exact ⟨rfl, rfl⟩

/-- A text cut where a byte first stands. -/
def cutAt (s : ByteArray) (c : UInt8) : ByteArray × ByteArray × Bool :=
  if 0 ≤ Lib.indexByte s.data.toList c then (s.extract 0 (Lib.indexByte s.data.toList c).toNat, s.extract ((Lib.indexByte s.data.toList c) + 1).toNat s.size, true) else (s, ⟨#[]⟩, false)

theorem indexByte_range (c : UInt8) : ∀ l : List UInt8, -1 ≤ Lib.indexByte l c ∧ Lib.indexByte l c < l.length
  | [] => by simp [Lib.indexByte]
  | b :: l => by
    have := indexByte_range c l
    simp only [Lib.indexByte]
    split
    · simp
    · split
      · simp; omega
      · simp at *; omega

theorem liteCut_spec (s : ByteArray) (hs : (s.size : Int) ≤ 9223372036854775807) (c : UInt8) : pureF Tryd.prog 90 [.p (.str s), .p (.str ⟨#[c]⟩)] (.p (.tup [.str (cutAt s c).1, .str (cutAt s c).2.1, .bool (cutAt s c).2.2])) := by
  have hr := indexByte_range c s.data.toList
  rw [← ba_size] at hr
  refine pureF_of f90_ok fun H => ?_
  (conv => whnf)
  refine CallVC.pureF (Index_spec s c) rfl ?_
  generalize hj : Lib.indexByte s.data.toList c = j at hr
  have hc : cutAt s c = if 0 ≤ j then (s.extract 0 j.toNat, s.extract (j + 1).toNat s.size, true) else (s, ⟨#[]⟩, false) := by rw [cutAt, hj]
  (conv => whnf)
  refine splitB_dec (fun h => ?_) (fun h => ?_)
  · rw [if_pos (show 0 ≤ j by omega)] at hc
    (conv => whnf)
    refine ⟨⟨by omega, by omega⟩, ?_⟩
    (conv => whnf)
    rw [show ((({ data := #[c] } : ByteArray).size : Nat) : Int) = 1 from rfl, IntWalk.i64_in (j + 1) (by omega)]
    refine ⟨⟨by omega, by omega⟩, ?_⟩
    exact ⟨by rw [hc], rfl⟩
  · rw [if_neg (show ¬ 0 ≤ j by omega)] at hc
    exact ⟨by rw [hc], rfl⟩

theorem Cut_spec (s : ByteArray) (hs : (s.size : Int) ≤ 9223372036854775807) (c : UInt8) : pureF Tryd.prog 79 [.p (.str s), .p (.str ⟨#[c]⟩)] (.p (.tup [.str (cutAt s c).1, .str (cutAt s c).2.1, .bool (cutAt s c).2.2])) := by
  refine pureF_of f79_ok fun H => ?_
  (conv => whnf)
  refine CallVC.pureF (liteCut_spec s hs c) rfl ?_
  exact ⟨rfl, rfl⟩

/-! ### a number with a dot -/
def decB (s : ByteArray) : Bool := (cutAt s 46).2.2 && (digitsB (cutAt s 46).1 && digitsB (cutAt s 46).2.1)

theorem indexByte_at (c : UInt8) (l : List UInt8) : ∀ (r : List UInt8) (i : Nat), l.drop i = r → (∀ k, k < i → l[k]? ≠ some c) → Lib.indexByte l c = (if Lib.indexByte r c = -1 then -1 else Lib.indexByte r c + i) := by
  intro r i hd hn
  have main : ∀ (p r : List UInt8), (∀ k, k < p.length → p[k]? ≠ some c) → Lib.indexByte (p ++ r) c = (if Lib.indexByte r c = -1 then -1 else Lib.indexByte r c + p.length) := by
    intro p
    induction p with
    | nil => intro r _; simp
    | cons b p ih =>
      intro r h
      have hb : (b == c) = false := by
        have := h 0 (by simp)
        simpa using this
      have := ih r fun k hk => by have := h (k + 1) (by simp; omega); simpa using this
      have hrange := indexByte_range c r
      simp only [List.cons_append, Lib.indexByte, hb, this]
      by_cases h2 : Lib.indexByte r c = -1
      · simp [h2]
      · rw [if_neg h2]
        simp only [beq_iff_eq, Bool.false_eq_true, if_false, h2, List.length_cons]
        rw [if_neg (by omega)]
        omega
  by_cases hl : i ≤ l.length
  · have := main (l.take i) (l.drop i) fun k hk => by
      rw [List.getElem?_take, if_pos (by simp at hk; omega)]; exact hn k (by simp at hk; omega)
    rw [List.take_append_drop, hd] at this
    rw [this]
    simp [Nat.min_eq_left hl]
  · have hr : r = [] := by rw [← hd]; exact List.drop_eq_nil_iff.2 (by omega)
    have := main l [] fun k hk => hn k (by omega)
    rw [List.append_nil] at this
    rw [this, hr]; rfl

theorem Dec_spec (s : ByteArray) (hs : (s.size : Int) ≤ 9223372036854775807) : pureF Tryd.prog 70 [.p (.str s)] (.p (.bool (decB s))) := by
  refine pureF_of f70_ok fun H => ?_
  (conv => whnf)
  intro R hR
  have key : ∀ (rest : List UInt8) (i : Nat), s.data.toList.drop i = rest → (∀ k, k < i → s.data.toList[k]? ≠ some 46) → R [(0, .p (.str s)), (3, .p (.int .i64 i))] H [] := by
    intro rest
    induction rest with
    | nil =>
      intro i hd hn
      have hl := sz_le hd
      have hx := indexByte_at 46 _ _ _ hd hn
      refine hR _ _ _ ?_
      (conv => whnf)
      refine splitB_f (decide_eq_false (by omega)) ?_
      refine ⟨?_, rfl⟩
      have : Lib.indexByte s.data.toList 46 = -1 := by rw [hx]; rfl
      rw [decB, cutAt, this]
      rfl
    | cons c r ih =>
      intro i hd hn
      obtain ⟨hg, hd', _⟩ := drop_cons hd
      have hl := sz_lt hd
      refine hR _ _ _ ?_
      (conv => whnf)
      refine splitB_t (decide_eq_true (by omega)) ?_
      (conv => whnf)
      refine ⟨c, ⟨by omega, hg⟩, ?_⟩
      (conv => whnf)
      refine splitB_eq (fun h => ?_) (fun h => ?_)
      · have hc : c = 46 := by
          apply UInt8.toNat_inj.1
          have : (c.toNat : Int) = 46 := h
          have h46 : (46 : UInt8).toNat = 46 := rfl
          omega
        subst hc
        have hx : Lib.indexByte s.data.toList 46 = i := by
          rw [indexByte_at 46 _ _ _ hd hn]
          have : Lib.indexByte ((46 : UInt8) :: r) 46 = 0 := by simp [Lib.indexByte]
          rw [this]; simp
        have hcut : cutAt s 46 = (s.extract 0 i, s.extract (i + 1) s.size, true) := by
          rw [cutAt, hx, if_pos (by omega)]
          simp
        have hsz : ∀ a b, ((s.extract a b).size : Int) ≤ 9223372036854775807 := fun a b => by
          have : (s.extract a b).size ≤ s.size := by simp [ByteArray.size_extract]; omega
          omega
        have hdec : decB s = (digitsB (s.extract 0 i) && digitsB (s.extract (i + 1) s.size)) := by rw [decB, hcut]; rfl
        (conv => whnf)
        refine ⟨⟨by omega, by omega⟩, ?_⟩
        (conv => whnf)
        refine CallVC.pureF (refDigits_spec _ (hsz _ _)) rfl ?_
        (conv => whnf)
        refine splitB_intro (fun h2 => ?_) (fun h2 => ?_)
        · have h2 : digitsB (s.extract 0 i) = true := h2
          (conv => whnf)
          rw [IntWalk.i64_in _ (by omega)]
          refine ⟨⟨by omega, by omega⟩, ?_⟩
          (conv => whnf)
          refine CallVC.pureF (refDigits_spec _ (hsz _ _)) rfl ?_
          exact ⟨by rw [hdec, h2, Bool.true_and]; rfl, rfl⟩
        · have h2 : digitsB (s.extract 0 i) = false := h2
          exact ⟨by rw [hdec, h2, Bool.false_and], rfl⟩
      · (conv => whnf)
        rw [IntWalk.i64_in _ (by omega)]
        refine ih (i + 1) hd' fun k hk => ?_
        rcases Nat.lt_or_ge k i with h2 | h2
        · exact hn k h2
        · have : k = i := by omega
          subst this
          rw [hg]
          intro e
          cases e
          exact h rfl
  exact key _ 0 rfl fun k hk => absurd hk (by omega)

end Go.Proofs.YtgdimfogijfmiaaDoor.AD

namespace Go.Proofs.YtgdimfogijfmiaaDoor.AD
open Go.Proofs
set_option linter.unusedVariables false
set_option linter.unusedSimpArgs false
set_option maxRecDepth 100000

def oneT (op a : Int) : Int :=
  if op = 3 ∧ a = 1 then 1 else if op = 6 ∧ a = 1 then 2 else if op = 8 ∧ a = 1 then 3 else if op = 9 ∧ (a = 2 ∨ a = 3) then a else if op = 25 ∧ a = 4 then 4 else 0
def twoT (op a b : Int) : Int :=
  if op = 4 then (if a = 1 ∧ b = 1 then 1 else 0)
  else if 10 ≤ op ∧ op ≤ 13 then (if a = 2 ∧ b = 2 then 2 else if (a = 2 ∨ a = 3) ∧ (b = 2 ∨ b = 3) then 3 else 0)
  else if op = 14 then (if a = 2 ∧ b = 2 then 2 else 0)
  else if op = 15 then (if (a = 2 ∨ a = 3) ∧ b = 2 then a else 0)
  else if 16 ≤ op ∧ op ≤ 21 then (if (a = 1 ∧ b = 1) ∨ ((a = 2 ∨ a = 3) ∧ (b = 2 ∨ b = 3)) then 4 else 0)
  else if op = 22 then (if a = 1 ∧ b = 1 then 4 else 0)
  else if op = 23 ∨ op = 24 then (if a = 4 ∧ b = 4 then 4 else 0)
  else 0

theorem arity1 {op : Int} (h : arityI op = 1) : op = 3 ∨ op = 6 ∨ op = 8 ∨ op = 9 ∨ op = 25 := by
  simp only [arityI] at h
  split at h
  · omega
  · split at h
    · assumption
    · split at h <;> omega
theorem arity2 {op : Int} (h : arityI op = 2) : op = 4 ∨ op = 10 ∨ op = 11 ∨ op = 12 ∨ op = 13 ∨ op = 14 ∨ op = 15 ∨ op = 16 ∨ op = 17 ∨ op = 18 ∨ op = 19 ∨ op = 20 ∨ op = 21 ∨ op = 22 ∨ op = 23 ∨ op = 24 := by
  simp only [arityI] at h
  split at h
  · omega
  · split at h
    · omega
    · split at h <;> omega

def rowOf (op : Int) : List PV := [.int .u8 (oneT op 0), .int .u8 (oneT op 1), .int .u8 (oneT op 2), .int .u8 (oneT op 3), .int .u8 (oneT op 4)]
def rowTwo (op a : Int) : List PV := [.int .u8 (twoT op a 0), .int .u8 (twoT op a 1), .int .u8 (twoT op a 2), .int .u8 (twoT op a 3), .int .u8 (twoT op a 4)]
def gridOf (op : Int) : List PV := rowTwo op 0 ++ rowTwo op 1 ++ rowTwo op 2 ++ rowTwo op 3 ++ rowTwo op 4

end Go.Proofs.YtgdimfogijfmiaaDoor.AD

namespace Go.Proofs.YtgdimfogijfmiaaDoor.AD
open Go.Proofs
set_option linter.unusedVariables false
set_option linter.unusedSimpArgs false
set_option maxRecDepth 100000

def leafT (o : Int) : Int := if o = 5 then 2 else if o = 7 then 3 else if o = 26 ∨ o = 27 then 4 else 1
def combT (o : Int) : List Int → Int
  | [] => leafT o
  | [a] => oneT o a
  | a :: b :: _ => twoT o a b
mutual
def typeT : Ex → Int
  | .mk o _ xs => combT o (typesT xs)
def typesT : List Ex → List Int
  | [] => []
  | a :: r => typeT a :: typesT r
end

/-- Each kind with as many parts as it has. -/
inductive Shaped : Ex → Prop
  | mk (o : Int) (t : ByteArray) (xs : List Ex) : arityI o = xs.length → (∀ a, a ∈ xs → Shaped a) → Shaped (.mk o t xs)

theorem arity0 {op : Int} (h : arityI op = 0) : op = 1 ∨ op = 2 ∨ op = 5 ∨ op = 7 ∨ op = 26 ∨ op = 27 := by
  simp only [arityI] at h
  split at h
  · assumption
  · split at h
    · omega
    · split at h <;> omega
theorem arity_le (op : Int) : arityI op ≤ 2 := by
  simp only [arityI]
  (repeat' split) <;> omega

theorem Shaped.args {o : Int} {t : ByteArray} {xs : List Ex} (h : Shaped (.mk o t xs)) : (arityI o = 0 ∧ xs = []) ∨ (arityI o = 1 ∧ ∃ a, xs = [a] ∧ Shaped a) ∨ (arityI o = 2 ∧ ∃ a b, xs = [a, b] ∧ Shaped a ∧ Shaped b) := by
  cases h with
  | mk _ _ _ h1 h2 =>
    have := arity_le o
    match xs, h1, h2 with
    | [], h1, _ => exact .inl ⟨h1, rfl⟩
    | [a], h1, h2 => exact .inr (.inl ⟨h1, a, rfl, h2 a (by simp)⟩)
    | [a, b], h1, h2 => exact .inr (.inr ⟨h1, a, b, rfl, h2 a (by simp), h2 b (by simp)⟩)
    | _ :: _ :: _ :: _, h1, _ => simp at h1; omega

theorem oneT_range {o a : Int} (h : 0 ≤ a ∧ a ≤ 4) : 0 ≤ oneT o a ∧ oneT o a ≤ 4 := by simp only [oneT]; (repeat' split) <;> omega
theorem twoT_range {o a b : Int} (h : 0 ≤ a ∧ a ≤ 4) : 0 ≤ twoT o a b ∧ twoT o a b ≤ 4 := by simp only [twoT]; (repeat' split) <;> omega

theorem typeT_range (e : Ex) : Shaped e → 0 ≤ typeT e ∧ typeT e ≤ 4 := by
  induction e using Ex.ind with
  | h o t xs ih =>
    intro h
    rcases h.args with ⟨_, rfl⟩ | ⟨_, a, rfl, ha⟩ | ⟨_, a, b, rfl, ha, hb⟩
    · simp only [typeT, typesT, combT, leafT]; (repeat' split) <;> omega
    · simp only [typeT, typesT, combT]; exact oneT_range (ih a (by simp) ha)
    · simp only [typeT, typesT, combT]; exact twoT_range (ih a (by simp) ha)

theorem row_get {op i : Int} (h : 0 ≤ i ∧ i ≤ 4) : (rowOf op)[i.toNat * 1]? = some (.int .u8 (oneT op i)) := by
  have : i = 0 ∨ i = 1 ∨ i = 2 ∨ i = 3 ∨ i = 4 := by omega
  rcases this with rfl | rfl | rfl | rfl | rfl <;> rfl
theorem grid_get {op i : Int} (h : 0 ≤ i ∧ i ≤ 4) : ((gridOf op).drop (i.toNat * 5)).take 5 = rowTwo op i := by
  have : i = 0 ∨ i = 1 ∨ i = 2 ∨ i = 3 ∨ i = 4 := by omega
  rcases this with rfl | rfl | rfl | rfl | rfl <;> rfl
theorem row2_get {op a i : Int} (h : 0 ≤ i ∧ i ≤ 4) : (rowTwo op a)[i.toNat * 1]? = some (.int .u8 (twoT op a i)) := by
  have : i = 0 ∨ i = 1 ∨ i = 2 ∨ i = 3 ∨ i = 4 := by omega
  rcases this with rfl | rfl | rfl | rfl | rfl <;> rfl

end Go.Proofs.YtgdimfogijfmiaaDoor.AD

namespace Go.Proofs.YtgdimfogijfmiaaDoor.AD
open Go.Proofs
set_option linter.unusedVariables false
set_option linter.unusedSimpArgs false
set_option maxRecDepth 100000

def eqS (s t : ByteArray) : Bool := s.toList == t.toList
def textOk (o : Int) (t : ByteArray) : Bool :=
  if o = 1 then true
  else if o = 2 then nameB t && (!eqS t ⟨#[116, 114, 117, 101]⟩ && !eqS t ⟨#[102, 97, 108, 115, 101]⟩)
  else if o = 5 then digitsB t
  else if o = 7 then decB t
  else eqS t ⟨#[]⟩
mutual
def mayE : Ex → Bool
  | .mk o t xs => decide (arityI o = xs.length) && (textOk o t && mayL xs)
def mayL : List Ex → Bool
  | [] => true
  | a :: r => mayE a && mayL r
end
theorem mayL_all : ∀ xs, mayL xs = xs.all mayE
  | [] => rfl
  | a :: r => by rw [mayL, mayL_all r]; rfl

theorem shaped_of (e : Ex) : mayE e = true → Shaped e := by
  induction e using Ex.ind with
  | h o t xs ih =>
    intro h
    simp only [mayE, Bool.and_eq_true, decide_eq_true_eq, mayL_all, List.all_eq_true] at h
    exact .mk o t xs h.1 fun a ha => ih a ha (h.2.2 a ha)

/-! ### the program's -/
/-- The first of which something holds. -/
def idxF {α : Type} (p : α → Bool) : List α → Int
  | [] => -1
  | a :: r => if p a then 0 else if idxF p r = -1 then -1 else idxF p r + 1
theorem idxF_ge {α : Type} (p : α → Bool) : ∀ xs : List α, -1 ≤ idxF p xs
  | [] => by simp [idxF]
  | a :: r => by have := idxF_ge p r; simp only [idxF]; (repeat' split) <;> omega
theorem idxF_any {α : Type} (p : α → Bool) : ∀ xs : List α, decide (idxF p xs ≥ 0) = xs.any p
  | [] => by simp [idxF]
  | a :: r => by
    have h1 := idxF_any p r
    have h2 := idxF_ge p r
    rw [List.any_cons, ← h1]
    simp only [idxF]
    by_cases hp : p a = true
    · simp [hp]
    · have hp : p a = false := by simpa using hp
      simp only [hp, Bool.false_or, Bool.false_eq_true, if_false]
      by_cases h3 : idxF p r = -1
      · rw [if_pos h3, h3]
      · rw [if_neg h3, decide_eq_decide]; omega

/-! ### the document's -/
end Go.Proofs.YtgdimfogijfmiaaDoor.AD

namespace Go.Proofs.YtgdimfogijfmiaaDoor.AD
open Go.Proofs
set_option linter.unusedVariables false
set_option linter.unusedSimpArgs false
set_option maxRecDepth 100000

def markEx : PV := .agg [.int .u8 77, .str ⟨#[]⟩, .nils]
mutual
def encT : Ex → PV
  | .mk o t xs => .agg [.int .u8 o, .str t, .lent 3 (encTs xs) [markEx]]
def encTs : List Ex → List PV
  | [] => []
  | a :: r => encT a :: encTs r
end
theorem encTs_map : ∀ l, encTs l = l.map encT
  | [] => rfl
  | a :: r => by rw [encTs, encTs_map r]; rfl
theorem encTs_len (xs : List Ex) : (encTs xs).length = xs.length := by rw [encTs_map, List.length_map]

/-- No row is long. -/
inductive Few : Ex → Prop
  | mk (o : Int) (t : ByteArray) (xs : List Ex) : xs.length ≤ 20000 → (∀ a, a ∈ xs → Few a) → Few (.mk o t xs)

theorem encT_le (e : Ex) : (encT e).le (enc e) := by
  induction e using Ex.ind with
  | h o t xs ih =>
    have main : ∀ l : List Ex, (∀ a, a ∈ l → (encT a).le (enc a)) → PV.les (encTs l) (encs l) := by
      intro l
      induction l with
      | nil => intro _; exact .nil
      | cons a r ihr => intro h; exact .cons _ _ _ _ (h a (by simp)) (ihr fun b hb => h b (by simp [hb]))
    exact .agg (.cons _ _ _ _ (.refl _) (.cons _ _ _ _ (.refl _) (.cons _ _ _ _ (.lent (main xs ih)) .nil)))

theorem encTs_take {xs : List Ex} {k : Nat} {a : Ex} (h : xs[k]? = some a) : encTs (xs.take (k + 1)) = encTs (xs.take k) ++ [encT a] := by
  rw [encTs_map, encTs_map, ← List.take_append_getElem (get_lt h), List.map_append]
  simp [(List.getElem?_eq_some_iff.1 h).2]
theorem encTs_cut (xs : List Ex) (k : Nat) : (encTs (xs.take k)).take k = encTs (xs.take k) := by
  apply List.take_of_length_le
  rw [encTs_len, List.length_take]
  omega

theorem encTs_get {xs : List Ex} {i : Nat} {a : Ex} (h : xs[i]? = some a) : (encTs xs)[i]? = some (encT a) := by rw [encTs_map, List.getElem?_map, h]; rfl

/-- A tree that is not large has short rows. -/
theorem few_of (e : Ex) : ∀ m : Int, m ≤ 20000 → size e m ≤ m → Few e := by
  induction e using Ex.ind with
  | h o t xs ih =>
    intro m hm h
    have main : ∀ (l : List Ex) (n : Int), (∀ a, a ∈ l → a ∈ xs) → 1 ≤ n → sizes l m n ≤ m → n + l.length ≤ m ∧ ∀ a, a ∈ l → Few a := by
      intro l
      induction l with
      | nil => intro n _ _ h; simp only [sizes] at h; exact ⟨by simpa using h, fun a ha => by cases ha⟩
      | cons a r ihr =>
        intro n hl hn h
        simp only [sizes] at h
        split at h
        · rename_i h2
          have h3 := sizes_le.1 a (m - n)
          have h4 := sizes_le.2 r m (n + size a (m - n)) (by omega)
          have h5 : size a (m - n) ≤ m - n := by omega
          obtain ⟨h6, h7⟩ := ihr _ (fun b hb => hl b (by simp [hb])) (by omega) h
          refine ⟨by simp; omega, fun b hb => ?_⟩
          cases hb with
          | head => exact ih a (hl a (by simp)) (m - n) (by omega) h5
          | tail _ hb => exact h7 b hb
        · omega
    obtain ⟨h1, h2⟩ := main xs 1 (fun _ h => h) (by omega) h
    exact .mk o t xs (by omega) h2

end Go.Proofs.YtgdimfogijfmiaaDoor.AD

namespace Go.Proofs.YtgdimfogijfmiaaDoor.AD
open Go.Proofs
set_option linter.unusedVariables false
set_option linter.unusedSimpArgs false
set_option maxRecDepth 100000

inductive Cl where
  | mk (kind : Int) (test value : Ex) (block : List Cl)

theorem Cl.ind {motive : Cl → Prop} (h : ∀ k t v b, (∀ a, a ∈ b → motive a) → motive (.mk k t v b)) (c : Cl) : motive c := by
  match c with
  | .mk k t v b => exact h k t v b fun a ha => Cl.ind h a
termination_by SizeOf.sizeOf c
decreasing_by
  have := List.sizeOf_lt_of_mem ha
  simp only [Cl.mk.sizeOf_spec]
  omega

mutual
def encC : Cl → PV
  | .mk k (.mk o t xs) (.mk o2 t2 xs2) b => .agg [.int .u8 k, .int .u8 o, .str t, .list 3 (encs xs), .int .u8 o2, .str t2, .list 3 (encs xs2), .list 8 (encCs b)]
def encCs : List Cl → List PV
  | [] => []
  | a :: r => encC a :: encCs r
end
theorem encCs_map : ∀ l, encCs l = l.map encC
  | [] => rfl
  | a :: r => by rw [encCs, encCs_map r]; rfl
theorem encCs_len (l : List Cl) : (encCs l).length = l.length := by rw [encCs_map, List.length_map]
theorem encCs_get {l : List Cl} {i : Nat} {a : Cl} (h : l[i]? = some a) : (encCs l)[i]? = some (encC a) := by rw [encCs_map, List.getElem?_map, h]; rfl

inductive FitsC : Cl → Prop
  | mk (k : Int) (t v : Ex) (b : List Cl) : 0 ≤ k → Fits t → Fits v → (b.length : Int) ≤ 9223372036854775807 → (∀ a, a ∈ b → FitsC a) → FitsC (.mk k t v b)

def zeroE : Ex → Bool
  | .mk o t xs => decide (o = 0) && (eqS t ⟨#[]⟩ && decide (xs.length = 0))
mutual
def checkC : Cl → Bool
  | .mk k t v b => (if k = 2 then mayE v && decide (b.length = 0) else if k = 3 then zeroE v && checkL b else if k = 1 then zeroE v && decide (b.length = 0) else false) && mayE t
def checkL : List Cl → Bool
  | [] => true
  | a :: r => checkC a && checkL r
end
def errT (b : Bool) : Int := if b then 0 else 151
theorem errT_zero (b : Bool) : errT b = 0 ↔ b = true := by cases b <;> simp [errT]

/-- The type of any tree, or the error. -/
def ofT (e : Ex) : PV := if mayE e then (if typeT e = 0 then .tup [.int .u8 0, .int .i64 200] else .tup [.int .u8 (typeT e), .int .i64 0]) else .tup [.int .u8 0, .int .i64 151]

theorem ofT_tup (e : Ex) : ∃ a b, ofT e = .tup [.int .u8 a, .int .i64 b] := by
  unfold ofT
  split
  · split <;> exact ⟨_, _, rfl⟩
  · exact ⟨_, _, rfl⟩

end Go.Proofs.YtgdimfogijfmiaaDoor.AD

namespace Go.Proofs.YtgdimfogijfmiaaDoor.AD
open Go.Proofs
set_option linter.unusedVariables false
set_option linter.unusedSimpArgs false
set_option maxRecDepth 100000

/-- What is reached behind a test and a value. -/
def sizeTV (t v : Ex) (most n : Int) : Int :=
  if n + 1 + size t (most - n) ≤ most then n + 1 + size t (most - n) + size v (most - (n + 1 + size t (most - n))) else n + 1 + size t (most - n)
mutual
def sizeC : Cl → Int → Int → Int
  | .mk _ t v b, most, n => if sizeTV t v most n ≤ most then sizeTV t v most n + sizeCs b (most - sizeTV t v most n) 0 else sizeTV t v most n
def sizeCs : List Cl → Int → Int → Int
  | [], most, n => n
  | c :: r, most, n => if n ≤ most then sizeCs r most (sizeC c most n) else n
end

theorem sizeTV_le (t v : Ex) (most n : Int) (h : n ≤ most) : n + 2 ≤ sizeTV t v most n ∧ sizeTV t v most n ≤ most + 2 := by
  have h1 := sizes_le.1 t (most - n)
  have h2 := sizes_le.1 v (most - (n + 1 + size t (most - n)))
  simp only [sizeTV]
  split <;> omega

theorem sizeCs_ge : (∀ c most n, n ≤ most → n + 2 ≤ sizeC c most n ∧ sizeC c most n ≤ most + 2) ∧ ∀ l most n, n ≤ sizeCs l most n ∧ (sizeCs l most n ≤ n ∨ sizeCs l most n ≤ most + 2) := by
  have main : ∀ l : List Cl, (∀ c, c ∈ l → ∀ most n, n ≤ most → n + 2 ≤ sizeC c most n ∧ sizeC c most n ≤ most + 2) → ∀ most n, n ≤ sizeCs l most n ∧ (sizeCs l most n ≤ n ∨ sizeCs l most n ≤ most + 2) := by
    intro l
    induction l with
    | nil => intro _ most n; simp only [sizeCs]; omega
    | cons c r ih =>
      intro h most n
      simp only [sizeCs]
      split
      · rename_i hn
        have h1 := h c (by simp) most n hn
        have h2 := ih (fun c hc => h c (by simp [hc])) most (sizeC c most n)
        omega
      · omega
  have one : ∀ c most n, n ≤ most → n + 2 ≤ sizeC c most n ∧ sizeC c most n ≤ most + 2 := by
    intro c
    induction c using Cl.ind with
    | h k t v b ih =>
      intro most n hn
      have h1 := sizeTV_le t v most n hn
      have h2 := main b ih (most - sizeTV t v most n) 0
      simp only [sizeC]
      split <;> omega
  exact ⟨one, fun l => main l fun c _ => one c⟩

/-- No row is long. -/
inductive FewC : Cl → Prop
  | mk (k : Int) (t v : Ex) (b : List Cl) : Few t → Few v → b.length ≤ 20000 → (∀ c, c ∈ b → FewC c) → FewC (.mk k t v b)

theorem fewC_all : ∀ c : Cl, ∀ most n : Int, most ≤ 20000 → 0 ≤ n → n ≤ most → sizeC c most n ≤ most → FewC c := by
  intro c
  induction c using Cl.ind with
  | h k t v b ih =>
    intro most n hm h0 hn h
    have main : ∀ (l : List Cl) (m n : Int), (∀ c, c ∈ l → c ∈ b) → m ≤ 20000 → 0 ≤ n → sizeCs l m n ≤ m → n + l.length ≤ m ∧ ∀ c, c ∈ l → FewC c := by
      intro l
      induction l with
      | nil => intro m n _ _ _ h; simp only [sizeCs] at h; exact ⟨by simpa using h, fun c hc => by cases hc⟩
      | cons c r ihr =>
        intro m n hl hm h0 h
        simp only [sizeCs] at h
        split at h
        · rename_i h2
          have h3 := sizeCs_ge.1 c m n h2
          have h4 := sizeCs_ge.2 r m (sizeC c m n)
          obtain ⟨h6, h7⟩ := ihr m _ (fun d hd => hl d (by simp [hd])) hm (by omega) h
          refine ⟨by simp; omega, fun d hd => ?_⟩
          cases hd with
          | head => exact ih c (hl c (by simp)) m n hm h0 h2 (by omega)
          | tail _ hd => exact h7 d hd
        · omega
    have h1 := sizeTV_le t v most n hn
    simp only [sizeC] at h
    split at h
    · rename_i h2
      obtain ⟨h3, h4⟩ := main b (most - sizeTV t v most n) 0 (fun c hc => hc) (by omega) (by omega) (by omega)
      simp only [sizeTV] at h2 h3
      have g1 := sizes_le.1 t (most - n)
      split at h2
      · rename_i h5
        have g2 := sizes_le.1 v (most - (n + 1 + size t (most - n)))
        exact .mk k t v b (few_of t (most - n) (by omega) (by omega)) (few_of v (most - (n + 1 + size t (most - n))) (by omega) (by omega)) (by omega) h4
      · omega
    · omega

theorem fewCs_of (l : List Cl) (h : sizeCs l 20000 0 ≤ 20000) : l.length ≤ 20000 ∧ ∀ c, c ∈ l → FewC c := by
  have main : ∀ (l : List Cl) (n : Int), 0 ≤ n → sizeCs l 20000 n ≤ 20000 → n + l.length ≤ 20000 ∧ ∀ c, c ∈ l → FewC c := by
    intro l
    induction l with
    | nil => intro n _ h; simp only [sizeCs] at h; exact ⟨by simpa using h, fun c hc => by cases hc⟩
    | cons c r ihr =>
      intro n h0 h
      simp only [sizeCs] at h
      split at h
      · rename_i h2
        have h3 := sizeCs_ge.1 c 20000 n h2
        have h4 := sizeCs_ge.2 r 20000 (sizeC c 20000 n)
        obtain ⟨h6, h7⟩ := ihr _ (by omega) h
        refine ⟨by simp; omega, fun d hd => ?_⟩
        cases hd with
        | head => exact fewC_all c 20000 n (by omega) h0 h2 (by omega)
        | tail _ hd => exact h7 d hd
      · omega
  obtain ⟨h1, h2⟩ := main l 0 (by omega) h
  exact ⟨by omega, h2⟩

/-! ### lent -/
def markC : PV := .agg [.int .u8 77, .int .u8 0, .str ⟨#[]⟩, .nils, .int .u8 0, .str ⟨#[]⟩, .nils, .nils]
mutual
def encTC : Cl → PV
  | .mk k (.mk o t xs) (.mk o2 t2 xs2) b => .agg [.int .u8 k, .int .u8 o, .str t, .lent 3 (encTs xs) [markEx], .int .u8 o2, .str t2, .lent 3 (encTs xs2) [markEx], .lent 8 (encTCs b) [markC]]
def encTCs : List Cl → List PV
  | [] => []
  | a :: r => encTC a :: encTCs r
end
theorem encTCs_map : ∀ l, encTCs l = l.map encTC
  | [] => rfl
  | a :: r => by rw [encTCs, encTCs_map r]; rfl
theorem encTCs_len (l : List Cl) : (encTCs l).length = l.length := by rw [encTCs_map, List.length_map]
theorem encTCs_get {l : List Cl} {i : Nat} {a : Cl} (h : l[i]? = some a) : (encTCs l)[i]? = some (encTC a) := by rw [encTCs_map, List.getElem?_map, h]; rfl
theorem encTCs_take {xs : List Cl} {k : Nat} {a : Cl} (h : xs[k]? = some a) : encTCs (xs.take (k + 1)) = encTCs (xs.take k) ++ [encTC a] := by
  rw [encTCs_map, encTCs_map, ← List.take_append_getElem (get_lt h), List.map_append]
  simp [(List.getElem?_eq_some_iff.1 h).2]
theorem encTCs_cut (xs : List Cl) (k : Nat) : (encTCs (xs.take k)).take k = encTCs (xs.take k) := by
  apply List.take_of_length_le
  rw [encTCs_len, List.length_take]
  omega

theorem encTs_les (xs : List Ex) : PV.les (encTs xs) (encs xs) := by
  induction xs with
  | nil => exact .nil
  | cons a r ih => exact .cons _ _ _ _ (encT_le a) ih
theorem encTC_le (c : Cl) : (encTC c).le (encC c) := by
  induction c using Cl.ind with
  | h k t v b ih =>
    obtain ⟨o, t, xs⟩ := t
    obtain ⟨o2, t2, xs2⟩ := v
    have main : ∀ l : List Cl, (∀ a, a ∈ l → (encTC a).le (encC a)) → PV.les (encTCs l) (encCs l) := by
      intro l
      induction l with
      | nil => intro _; exact .nil
      | cons a r ihr => intro h; exact .cons _ _ _ _ (h a (by simp)) (ihr fun b hb => h b (by simp [hb]))
    exact .agg (.cons _ _ _ _ (.refl _) (.cons _ _ _ _ (.refl _) (.cons _ _ _ _ (.refl _) (.cons _ _ _ _ (.lent (encTs_les xs)) (.cons _ _ _ _ (.refl _) (.cons _ _ _ _ (.refl _) (.cons _ _ _ _ (.lent (encTs_les xs2)) (.cons _ _ _ _ (.lent (main b ih)) .nil))))))))
theorem encTCs_le (l : List Cl) : PV.le (.lent 8 (encTCs l) [markC]) (.list 8 (encCs l)) := by
  refine .lent ?_
  induction l with
  | nil => exact .nil
  | cons a r ih => exact .cons _ _ _ _ (encTC_le a) ih

end Go.Proofs.YtgdimfogijfmiaaDoor.AD

namespace Go.Proofs.YtgdimfogijfmiaaDoor.AD
open Go.Proofs
set_option linter.unusedVariables false
set_option linter.unusedSimpArgs false
set_option maxRecDepth 100000

theorem checkC_k (k : Int) (t v : Ex) (b : List Cl) :
    (k = 1 → checkC (.mk k t v b) = ((zeroE v && decide (b.length = 0)) && mayE t)) ∧ (k = 2 → checkC (.mk k t v b) = ((mayE v && decide (b.length = 0)) && mayE t)) ∧ (k = 3 → checkC (.mk k t v b) = ((zeroE v && checkL b) && mayE t)) ∧ ((k < 1 ∨ k > 3) → checkC (.mk k t v b) = false) := by
  refine ⟨fun h => ?_, fun h => ?_, fun h => ?_, fun h => ?_⟩
  · subst h; rfl
  · subst h; rfl
  · subst h; rfl
  · rw [checkC, if_neg (by omega), if_neg (by omega), if_neg (by omega)]; rfl

/-! ### are they right -/
mutual
def rightC : Cl → Bool
  | .mk k t v b => decide (typeT t = 4) && ((!decide (k = 2) || decide (typeT v = 1)) && rightL b)
def rightL : List Cl → Bool
  | [] => true
  | a :: r => rightC a && rightL r
end
theorem rightL_all : ∀ l, rightL l = l.all rightC
  | [] => rfl
  | a :: r => by rw [rightL, rightL_all r]; rfl

/-- What checks is shaped. -/
theorem checkC_parts {k t v b} (h : checkC (.mk k t v b) = true) : Shaped t ∧ (k = 2 → Shaped v) ∧ checkL b = true := by
  simp only [checkC, Bool.and_eq_true] at h
  obtain ⟨h1, h2⟩ := h
  refine ⟨shaped_of _ h2, fun hk => ?_, ?_⟩
  · rw [if_pos hk, Bool.and_eq_true] at h1
    exact shaped_of _ h1.1
  · have hnil : b.length = 0 → checkL b = true := fun h => by rw [List.length_eq_zero_iff.1 h]; rfl
    split at h1
    · simp only [Bool.and_eq_true, decide_eq_true_eq] at h1; exact hnil h1.2
    · split at h1
      · simp only [Bool.and_eq_true] at h1; exact h1.2
      · split at h1
        · simp only [Bool.and_eq_true, decide_eq_true_eq] at h1; exact hnil h1.2
        · cases h1

theorem checkL_mem : ∀ l : List Cl, checkL l = true → ∀ c, c ∈ l → checkC c = true := by
  intro l
  induction l with
  | nil => intro _ c hc; cases hc
  | cons a r ih =>
    intro h c hc
    simp only [checkL, Bool.and_eq_true] at h
    cases hc with
    | head => exact h.1
    | tail _ hc => exact ih h.2 c hc

/-! ### the program's -/
/-- What is told of clauses. -/
def clsT (l : List Cl) : Int := if checkL l then (if rightL l then 0 else 200) else 151

end Go.Proofs.YtgdimfogijfmiaaDoor.AD

namespace Go.Proofs.YtgdimfogijfmiaaDoor.AD
open Go.Proofs
set_option linter.unusedVariables false
set_option linter.unusedSimpArgs false
set_option maxRecDepth 100000

inductive Li where
  | mk (op : Int) (text : ByteArray) (k : Int) (args : List Li)

theorem Li.ind {motive : Li → Prop} (h : ∀ o t k xs, (∀ a, a ∈ xs → motive a) → motive (.mk o t k xs)) (e : Li) : motive e := by
  match e with
  | .mk o t k xs => exact h o t k xs fun a ha => Li.ind h a
termination_by SizeOf.sizeOf e
decreasing_by
  have := List.sizeOf_lt_of_mem ha
  simp only [Li.mk.sizeOf_spec]
  omega

mutual
def encL : Li → PV
  | .mk o t k xs => .agg [.int .u8 o, .str t, .int .i64 k, .list 4 (encLs xs)]
def encLs : List Li → List PV
  | [] => []
  | a :: r => encL a :: encLs r
end
theorem encLs_map : ∀ l, encLs l = l.map encL
  | [] => rfl
  | a :: r => by rw [encLs, encLs_map r]; rfl
theorem encLs_get {xs : List Li} {i : Nat} {a : Li} (h : xs[i]? = some a) : (encLs xs)[i]? = some (encL a) := by rw [encLs_map, List.getElem?_map, h]; rfl
theorem encLs_len (xs : List Li) : (encLs xs).length = xs.length := by rw [encLs_map, List.length_map]

/-- How large, and how many parts. -/
def lcap (t : ByteArray) (most : Int) : Int := 1 + (if most < t.size then most else t.size)
mutual
def lw : Li → Int → Int
  | .mk _ t _ xs, most => lws xs most (lcap t most)
def lws : List Li → Int → Int → Int
  | [], most, n => n
  | a :: r, most, n => if n ≤ most then lws r most (n + lw a (most - n)) else n
end
mutual
def lcnt : Li → Int
  | .mk _ _ _ xs => 1 + lcnts xs
def lcnts : List Li → Int
  | [] => 0
  | a :: r => lcnt a + lcnts r
end

theorem lws_le : (∀ e most, 0 ≤ most → 1 ≤ lw e most ∧ lw e most ≤ most + 1) ∧ ∀ l most n, 0 ≤ most → 1 ≤ n → n ≤ most + 1 → n ≤ lws l most n ∧ lws l most n ≤ most + 1 := by
  have main : ∀ l, (∀ a, a ∈ l → ∀ most, 0 ≤ most → 1 ≤ lw a most ∧ lw a most ≤ most + 1) → ∀ most n, 0 ≤ most → 1 ≤ n → n ≤ most + 1 → n ≤ lws l most n ∧ lws l most n ≤ most + 1 := by
    intro l
    induction l with
    | nil => intro _ most n _ _ _; simp only [lws]; omega
    | cons a r ih =>
      intro hl most n h0 h1 h2
      simp only [lws]
      split
      · have := hl a (by simp) (most - n) (by omega)
        have := ih (fun b hb => hl b (by simp [hb])) most (n + lw a (most - n)) h0 (by omega) (by omega)
        omega
      · omega
  have one : ∀ e most, 0 ≤ most → 1 ≤ lw e most ∧ lw e most ≤ most + 1 := by
    intro e
    induction e using Li.ind with
    | h o t k xs ih =>
      intro most h0
      simp only [lw]
      have hc : 1 ≤ lcap t most ∧ lcap t most ≤ most + 1 := by simp only [lcap]; split <;> omega
      have := main xs ih most (lcap t most) h0 (by omega) (by omega)
      omega
  exact ⟨one, fun l => main l fun a _ => one a⟩

/-- Nothing in it is larger than can be counted. -/
inductive FitsL : Li → Prop
  | mk (o : Int) (t : ByteArray) (k : Int) (xs : List Li) : 0 ≤ o → -9223372036854775808 ≤ k → k ≤ 9223372036854775807 → (t.size : Int) ≤ 9223372036854775807 → (xs.length : Int) ≤ 9223372036854775807 → (∀ a, a ∈ xs → FitsL a) → FitsL (.mk o t k xs)

/-- No row and no text is long. -/
inductive FewL : Li → Prop
  | mk (o : Int) (t : ByteArray) (k : Int) (xs : List Li) : t.size ≤ 20000 → xs.length ≤ 20000 → (∀ a, a ∈ xs → FewL a) → FewL (.mk o t k xs)

theorem fewL_of (e : Li) : ∀ most : Int, 0 ≤ most → most ≤ 20000 → lw e most ≤ most → FewL e ∧ lcnt e ≤ lw e most := by
  induction e using Li.ind with
  | h o t k xs ih =>
    intro most h0 hm h
    have main : ∀ (l : List Li) (n : Int), (∀ a, a ∈ l → a ∈ xs) → 1 ≤ n → n ≤ most + 1 → lws l most n ≤ most → n + l.length ≤ most ∧ (∀ a, a ∈ l → FewL a) ∧ n + lcnts l ≤ lws l most n := by
      intro l
      induction l with
      | nil => intro n _ _ _ h; simp only [lws] at h; exact ⟨by simpa using h, (fun a ha => by cases ha), by simp [lcnts, lws]⟩
      | cons a r ihr =>
        intro n hl h1 h2 h
        simp only [lws] at h
        split at h
        · rename_i h3
          have h4 := lws_le.1 a (most - n) (by omega)
          have h5 := lws_le.2 r most (n + lw a (most - n)) h0 (by omega) (by omega)
          obtain ⟨g1, g2⟩ := ih a (hl a (by simp)) (most - n) (by omega) (by omega) (by omega)
          obtain ⟨g3, g4, g5⟩ := ihr _ (fun b hb => hl b (by simp [hb])) (by omega) (by omega) h
          refine ⟨by simp; omega, fun b hb => ?_, ?_⟩
          · cases hb with
            | head => exact g1
            | tail _ hb => exact g4 b hb
          · simp only [lcnts, lws, if_pos h3]; omega
        · omega
    simp only [lw] at h
    have hc : 1 ≤ lcap t most ∧ lcap t most ≤ most + 1 := by simp only [lcap]; split <;> omega
    obtain ⟨g1, g2, g3⟩ := main xs (lcap t most) (fun _ h => h) hc.1 hc.2 h
    have ht : t.size ≤ 20000 := by
      have hx := lws_le.2 xs most (lcap t most) h0 hc.1 hc.2
      have h9 : lcap t most ≤ most := by omega
      simp only [lcap] at h9
      split at h9 <;> omega
    refine ⟨.mk o t k xs ht (by omega) g2, ?_⟩
    simp only [lcnt, lw]
    omega

end Go.Proofs.YtgdimfogijfmiaaDoor.AD

namespace Go.Proofs.YtgdimfogijfmiaaDoor.AD
open Go.Proofs
set_option linter.unusedVariables false
set_option linter.unusedSimpArgs false
set_option maxRecDepth 100000

def markL : PV := .agg [.int .u8 77, .str ⟨#[]⟩, .int .i64 0, .nils]
mutual
def encTL : Li → PV
  | .mk o t k xs => .agg [.int .u8 o, .str t, .int .i64 k, .lent 4 (encTLs xs) [markL]]
def encTLs : List Li → List PV
  | [] => []
  | a :: r => encTL a :: encTLs r
end
theorem encTLs_map : ∀ l, encTLs l = l.map encTL
  | [] => rfl
  | a :: r => by rw [encTLs, encTLs_map r]; rfl
theorem encTLs_len (xs : List Li) : (encTLs xs).length = xs.length := by rw [encTLs_map, List.length_map]
theorem encTLs_get {xs : List Li} {i : Nat} {a : Li} (h : xs[i]? = some a) : (encTLs xs)[i]? = some (encTL a) := by rw [encTLs_map, List.getElem?_map, h]; rfl
theorem encTLs_take {xs : List Li} {k : Nat} {a : Li} (h : xs[k]? = some a) : encTLs (xs.take (k + 1)) = encTLs (xs.take k) ++ [encTL a] := by
  rw [encTLs_map, encTLs_map, ← List.take_append_getElem (get_lt h), List.map_append]
  simp [(List.getElem?_eq_some_iff.1 h).2]
theorem encTLs_cut (xs : List Li) (k : Nat) : (encTLs (xs.take k)).take k = encTLs (xs.take k) := by
  apply List.take_of_length_le
  rw [encTLs_len, List.length_take]
  omega
theorem encTL_le (e : Li) : (encTL e).le (encL e) := by
  induction e using Li.ind with
  | h o t k xs ih =>
    have main : ∀ l : List Li, (∀ a, a ∈ l → (encTL a).le (encL a)) → PV.les (encTLs l) (encLs l) := by
      intro l
      induction l with
      | nil => intro _; exact .nil
      | cons a r ihr => intro h; exact .cons _ _ _ _ (h a (by simp)) (ihr fun b hb => h b (by simp [hb]))
    exact .agg (.cons _ _ _ _ (.refl _) (.cons _ _ _ _ (.refl _) (.cons _ _ _ _ (.refl _) (.cons _ _ _ _ (.lent (main xs ih)) .nil))))

/-! ### may they be -/
mutual
def chkLi : Li → Bool
  | .mk o t k xs => if o = 1 then decide (k = 0) && decide (xs.length = 0) else ((if o = 2 ∨ o = 3 then decide (k = 0) && decide (xs.length = 2) else if o = 4 then decide (1 ≤ k) && decide (k ≤ xs.length) else false) && (t.toList == (⟨#[]⟩ : ByteArray).toList)) && chkLs xs
def chkLs : List Li → Bool
  | [] => true
  | a :: r => chkLi a && chkLs r
end
theorem chkLs_all : ∀ l, chkLs l = l.all chkLi
  | [] => rfl
  | a :: r => by rw [chkLs, chkLs_all r]; rfl
end Go.Proofs.YtgdimfogijfmiaaDoor.AD

namespace Go.Proofs.YtgdimfogijfmiaaDoor.AD
open Go.Proofs
set_option linter.unusedVariables false
set_option linter.unusedSimpArgs false
set_option maxRecDepth 100000

structure Ins where
  op : Int
  a : Int
  b : Int
def insP (x : Ins) : PV := .agg [.int .u8 x.op, .int .i64 x.a, .int .i64 x.b]

/-- By how much an instruction changes the height. -/
def effI (x : Ins) : Int :=
  if x.op = 1 ∨ x.op = 2 ∨ x.op = 3 ∨ x.op = 4 ∨ x.op = 24 ∨ x.op = 25 ∨ x.op = 34 ∨ x.op = 29 then 1
  else if x.op = 5 ∨ x.op = 6 ∨ x.op = 7 ∨ x.op = 9 ∨ x.op = 23 ∨ x.op = 32 ∨ x.op = 33 then 0
  else if x.op = 37 then IntKind.i64.wrap (1 - x.b) else -1

/-- The state. -/
structure Bs where
  T : List ByteArray
  C : List Ins
  S : Int
  h : Int

def tP (T : List ByteArray) : List PV := T.map PV.str
def cP (C : List Ins) : List PV := C.map insP
def mP : Nat → List ByteArray → List (PV × PV)
  | _, [] => []
  | i, t :: r => (.str t, .int .i64 i) :: mP (i + 1) r
theorem tP_len (T : List ByteArray) : (tP T).length = T.length := by simp [tP]
theorem cP_len (C : List Ins) : (cP C).length = C.length := by simp [cP]

def bos (κ : Int) (b : Bs) : List Ob :=
  [.cells [.p (.int .u8 κ), .view (.b 1) b.T.length 1 b.T.length, .view (.b 2) b.C.length 3 b.C.length, .p (.int .i64 b.S), .mapr (.b 3), .p (.int .i64 b.h)],
   .buf b.T.length 1 (tP b.T), .buf b.C.length 3 (cP b.C), .map (mP 0 b.T)]

def putB (x : Ins) (b : Bs) : Bs :=
  { T := b.T, C := if b.C.length ≤ 32768 then b.C ++ [x] else b.C, S := if IntKind.i64.wrap (b.h + effI x) > b.S then IntKind.i64.wrap (b.h + effI x) else b.S, h := IntKind.i64.wrap (b.h + effI x) }

/-! ### a text's number -/
def tix (s : ByteArray) : List ByteArray → Option Nat
  | [] => none
  | t :: r => if s = t then some 0 else (tix s r).map (· + 1)
def namedB (op : Int) (s : ByteArray) (b : Bs) : Bs :=
  match tix s b.T with
  | some i => putB ⟨op, i, 0⟩ b
  | none => putB ⟨op, b.T.length, 0⟩ { b with T := b.T ++ [s] }

theorem tix_find (s : ByteArray) : ∀ (T : List ByteArray) (i : Nat), mfind none (.str s) (mP i T) = some ((tix s T).map fun k => .int .i64 (i + k : Nat)) := by
  intro T
  induction T with
  | nil => intro i; rfl
  | cons t r ih =>
    intro i
    simp only [mP, mfind, keyOk, sameKey, tix]
    by_cases h : s = t
    · subst h; simp
    · rw [decide_eq_false h, if_neg h]
      simp only [ih]
      cases tix s r with
      | none => rfl
      | some k => simp; omega
theorem tix_put (s : ByteArray) : ∀ (T : List ByteArray) (i : Nat), tix s T = none → mput none (.str s) (.int .i64 (i + T.length : Nat)) (mP i T) = some (mP i (T ++ [s])) := by
  intro T
  induction T with
  | nil => intro i _; rfl
  | cons t r ih =>
    intro i h
    simp only [tix] at h
    by_cases h2 : s = t
    · rw [if_pos h2] at h; cases h
    · rw [if_neg h2] at h
      have h3 : tix s r = none := by cases h4 : tix s r with | none => rfl | some k => rw [h4] at h; cases h
      simp only [mP, mput, keyOk, sameKey, List.cons_append]
      rw [decide_eq_false h2]
      have := ih (i + 1) h3
      have e : i + 1 + r.length = i + (t :: r).length := by simp; omega
      rw [e] at this
      simp only [this]
      rfl

/-! ### licensees -/
mutual
def licB : Li → Bs → Bs
  | .mk o t k xs, b => if o = 1 then namedB 34 t b else
      (if o = 2 then putB ⟨35, 0, 0⟩ else if o = 3 then putB ⟨36, 0, 0⟩ else putB ⟨37, k, xs.length⟩) (licsB xs b)
def licsB : List Li → Bs → Bs
  | [], b => b
  | a :: r, b => licsB r (licB a b)
end

theorem putB_T (x : Ins) (b : Bs) : (putB x b).T = b.T := rfl
theorem namedB_T (o : Int) (s : ByteArray) (b : Bs) : (namedB o s b).T.length ≤ b.T.length + 1 := by
  rw [namedB]
  split
  · rw [putB_T]; omega
  · rw [putB_T]; simp
theorem lcnt_pos : ∀ e, 1 ≤ lcnt e := by
    intro e
    induction e using Li.ind with
    | h o t k xs ih =>
      have : ∀ l : List Li, (∀ a, a ∈ l → 1 ≤ lcnt a) → 0 ≤ lcnts l := by
        intro l
        induction l with
        | nil => intro _; simp [lcnts]
        | cons a r ihr => intro h; have := h a (by simp); have := ihr (fun c hc => h c (by simp [hc])); simp only [lcnts]; omega
      have := this xs ih
      simp only [lcnt]
      omega
theorem lcnts_pos : ∀ l, 0 ≤ lcnts l := by
    intro l
    induction l with
    | nil => simp [lcnts]
    | cons a r ihr => have := lcnt_pos a; simp only [lcnts]; omega
theorem licB_T : (∀ e b, ((licB e b).T.length : Int) ≤ b.T.length + lcnt e) ∧ ∀ l b, ((licsB l b).T.length : Int) ≤ b.T.length + lcnts l := by
  have main : ∀ l : List Li, (∀ a, a ∈ l → ∀ b, ((licB a b).T.length : Int) ≤ b.T.length + lcnt a) → ∀ b, ((licsB l b).T.length : Int) ≤ b.T.length + lcnts l := by
    intro l
    induction l with
    | nil => intro _ b; simp [licsB, lcnts]
    | cons a r ih =>
      intro h b
      have h1 := h a (by simp) b
      have h2 := ih (fun c hc => h c (by simp [hc])) (licB a b)
      simp only [licsB, lcnts]
      omega
  have one : ∀ e b, ((licB e b).T.length : Int) ≤ b.T.length + lcnt e := by
    intro e
    induction e using Li.ind with
    | h o t k xs ih =>
      intro b
      have h1 := main xs ih b
      have h2 := namedB_T 34 t b
      have h3 := lcnts_pos xs
      simp only [licB, lcnt]
      (repeat' split) <;> first | omega | (simp only [putB_T]; omega)
  exact ⟨one, fun l => main l fun a _ => one a⟩

end Go.Proofs.YtgdimfogijfmiaaDoor.AD

namespace Go.Proofs.YtgdimfogijfmiaaDoor.AD
open Go.Proofs
set_option linter.unusedVariables false
set_option linter.unusedSimpArgs false
set_option maxRecDepth 100000

structure Ws where
  T : List ByteArray
  C : List Ins
  S : Int
  h : Int
  o : Bool

def wos (κ : Int) (w : Ws) : List Ob :=
  [.cells [.p (.int .u8 κ), .view (.b 1) w.T.length 1 w.T.length, .view (.b 2) w.C.length 3 w.C.length, .p (.int .i64 w.S), .p (.int .i64 w.h), .p (.bool w.o)],
   .buf w.T.length 1 (tP w.T), .buf w.C.length 3 (cP w.C)]

def putW (x : Ins) (w : Ws) : Ws :=
  if w.o = true ∨ 32768 < w.C.length then { w with o := true } else
  { T := w.T, C := w.C ++ [x], S := if IntKind.i64.wrap (w.h + effI x) > w.S then IntKind.i64.wrap (w.h + effI x) else w.S, h := IntKind.i64.wrap (w.h + effI x), o := w.o }
def putN (w : Ws) : Int := if w.o = true ∨ 32768 < w.C.length then 0 else w.C.length

def namedW (op : Int) (s : ByteArray) (w : Ws) : Ws :=
  if w.o = true then w else
  match tix s w.T with
  | some i => putW ⟨op, i, 0⟩ w
  | none => if 8192 < w.T.length then { w with o := true } else putW ⟨op, w.T.length, 0⟩ { w with T := w.T ++ [s] }

theorem tix_drop (s : ByteArray) : ∀ (T : List ByteArray) (i : Nat) (r : List ByteArray), T.drop i = r → (∀ k, k < i → T[k]? ≠ some s) → tix s T = (tix s r).map (· + i) := by
  intro T
  induction T with
  | nil => intro i r hd _; simp at hd; subst hd; rfl
  | cons t T ih =>
    intro i r hd hn
    cases i with
    | zero => simp at hd; subst hd; cases tix s (t :: T) <;> rfl
    | succ i =>
      have h1 := hn 0 (by omega)
      have h2 := ih i r (by simpa using hd) fun k hk => by have := hn (k + 1) (by omega); simpa using this
      have h3 : ¬ s = t := fun e => h1 (by rw [e]; rfl)
      simp only [tix, if_neg h3, h2]
      cases tix s r <;> simp
      omega

/-! ### licensees -/
mutual
def licW : Li → Ws → Ws
  | .mk o t k xs, w => if o = 1 then namedW 34 t w else
      (if o = 2 then putW ⟨35, 0, 0⟩ else if o = 3 then putW ⟨36, 0, 0⟩ else if o = 4 then putW ⟨37, k, xs.length⟩ else id) (licsW xs w)
def licsW : List Li → Ws → Ws
  | [], w => w
  | a :: r, w => if w.o = true then w else licsW r (licW a w)
end

theorem putW_T (x : Ins) (w : Ws) : (putW x w).T = w.T := by rw [putW]; split <;> rfl
theorem namedW_T (o : Int) (s : ByteArray) (w : Ws) : (namedW o s w).T.length ≤ w.T.length + 1 := by
  rw [namedW]
  split
  · omega
  · split
    · rw [putW_T]; omega
    · split
      · simp
      · rw [putW_T]; simp
theorem licW_T : (∀ e w, ((licW e w).T.length : Int) ≤ w.T.length + lcnt e) ∧ ∀ l w, ((licsW l w).T.length : Int) ≤ w.T.length + lcnts l := by
  have main : ∀ l : List Li, (∀ a, a ∈ l → ∀ w, ((licW a w).T.length : Int) ≤ w.T.length + lcnt a) → ∀ w, ((licsW l w).T.length : Int) ≤ w.T.length + lcnts l := by
    intro l
    induction l with
    | nil => intro _ w; simp [licsW, lcnts]
    | cons a r ih =>
      intro h w
      have h1 := h a (by simp) w
      have h2 := ih (fun c hc => h c (by simp [hc])) (licW a w)
      have h3 := lcnt_pos a
      have h4 := lcnts_pos r
      simp only [licsW, lcnts]
      split <;> omega
  have one : ∀ e w, ((licW e w).T.length : Int) ≤ w.T.length + lcnt e := by
    intro e
    induction e using Li.ind with
    | h o t k xs ih =>
      intro w
      have h1 := main xs ih w
      have h2 := namedW_T 34 t w
      have h3 := lcnts_pos xs
      simp only [licW, lcnt]
      (repeat' split) <;> first | omega | (simp only [putW_T]; omega) | (simp only [id]; omega)
  exact ⟨one, fun l => main l fun a _ => one a⟩

end Go.Proofs.YtgdimfogijfmiaaDoor.AD

namespace Go.Proofs.YtgdimfogijfmiaaDoor.AD
open Go.Proofs
set_option linter.unusedVariables false
set_option linter.unusedSimpArgs false
set_option maxRecDepth 100000

/-! ### numbers -/
def contP (u : Int) : PV := .int .u8 (IntKind.u8.wrap (BitVec.ofInt 8 (IntKind.u8.wrap u) ||| BitVec.ofInt 8 128).toNat)
def numP : Nat → Int → List PV
  | 0, u => [.int .u8 (IntKind.u8.wrap u)]
  | f + 1, u => if 128 ≤ u then contP u :: numP f (u / 128) else [.int .u8 (IntKind.u8.wrap u)]
def szN : Nat → Int → Int
  | 0, _ => 1
  | f + 1, u => if 128 ≤ u then 1 + szN f (u / 128) else 1
theorem numP_len (f : Nat) : ∀ u, ((numP f u).length : Int) = szN f u := by
  induction f with
  | zero => intro u; rfl
  | succ f ih =>
    intro u
    simp only [numP, szN]
    split
    · have := ih (u / 128); simp; omega
    · rfl
theorem szN_range (f : Nat) : ∀ u, 1 ≤ szN f u ∧ szN f u ≤ f + 1 := by
  induction f with
  | zero => intro u; simp [szN]
  | succ f ih =>
    intro u
    have := ih (u / 128)
    simp only [szN]
    split <;> omega

theorem size_spec (n : Int) (h0 : 0 ≤ n) (h1 : n ≤ 2147483647) : pureF Tryd.prog 49 [.p (.int .i64 n)] (.p (.int .i64 (szN 5 n))) := by
  refine pureF_of f49_ok fun H => ?_
  (conv => whnf)
  intro R hR
  have key : ∀ (f : Nat) (u k : Int), (0 ≤ u ∧ u ≤ 2147483647) → u < 128 ^ (f + 1) → 1 ≤ k → k + f ≤ 100 → k - 1 + szN f u = szN 5 n → R [(0, .p (.int .i64 u)), (3, .p (.int .i64 k))] H [] := by
    intro f
    induction f with
    | zero =>
      intro u k g0 g1 g2 g3 g4
      have g1 : u < 128 := by simpa using g1
      refine hR _ _ _ ?_
      (conv => whnf)
      refine splitB_f (decide_eq_false (by omega)) ?_
      exact ⟨by rw [← g4]; simp only [szN]; congr 3; omega, rfl⟩
    | succ f ih =>
      intro u k g0 g1 g2 g3 g4
      refine hR _ _ _ ?_
      (conv => whnf)
      refine splitB_dec (fun h => ?_) (fun h => ?_)
      · (conv => whnf)
        refine ⟨by omega, ?_⟩
        (conv => whnf)
        have hq : u.tdiv 128 = u / 128 := Int.tdiv_eq_ediv_of_nonneg g0.1
        have hp : (128 : Int) ^ (f + 1 + 1) = 128 * 128 ^ (f + 1) := by rw [Int.pow_succ, Int.mul_comm]
        have hlt : u / 128 < 128 ^ (f + 1) := by rw [hp] at g1; omega
        rw [hq, IntWalk.i64_in _ (by omega), IntWalk.i64_in _ (by omega)]
        exact ih (u / 128) (k + 1) (by omega) hlt (by omega) (by omega) (by rw [← g4]; simp only [szN]; rw [if_pos (by omega)]; omega)
      · exact ⟨by rw [← g4]; simp only [szN]; rw [if_neg (by omega)]; congr 3; omega, rfl⟩
  have hpow : n < (128 : Int) ^ (5 + 1) := by
    have : (128 : Int) ^ (5 + 1) = 4398046511104 := by decide
    omega
  exact key 5 n 1 ⟨h0, h1⟩ hpow (by omega) (by omega) (by omega)

theorem put_code_spec (n : Int) (h0 : 0 ≤ n) (h1 : n ≤ 2147483647) (g : Nat) (ys : List PV) (hy : ys.length ≤ 35184372088832) :
    MethV Tryd.prog 42 [.view (.b 0) g 1 ys.length, .p (.int .i64 n)] [.buf g 1 ys] (.view (.b 0) (g + (numP 5 n).length) 1 (ys.length + (numP 5 n).length)) [.buf (g + (numP 5 n).length) 1 (ys ++ numP 5 n)] := by
  refine MethV.of f42_ok fun rest => ?_
  (conv => whnf)
  have hu : IntKind.u32.wrap n = n := by
    have : IntKind.u32.wrap n = n % 4294967296 := by simp [IntKind.wrap, IntKind.bits, IntKind.signed]
    rw [this]
    omega
  rw [hu]
  intro R hR
  have fin : ∀ (u : Int) (zs : List PV), u < 128 → zs ++ [.int .u8 (IntKind.u8.wrap u)] = numP 5 n → zs.length ≤ 5 → R [(0, .view (.b 0) (g + zs.length) 1 (ys.length + zs.length)), (5, .p (.int .u32 u))] ([.buf (g + zs.length) 1 (ys ++ zs)] ++ rest) [] := by
    intro u zs g1 g2 g3
    refine hR _ _ _ ?_
    (conv => whnf)
    refine splitB_f (decide_eq_false (by omega)) ?_
    (conv => whnf)
    refine ⟨rfl, ?_⟩
    (conv => whnf)
    refine ⟨⟨rfl, rfl, rfl, by simp⟩, by simp [room]; omega, ys ++ numP 5 n, by rw [List.take_of_length_le (by simp), List.append_assoc, g2], ?_⟩
    (conv => whnf)
    have hl := congrArg List.length g2
    simp only [List.length_append] at hl
    refine ⟨?_, ?_⟩
    · rw [← hl]; rfl
    · rw [← hl]; rfl
  have key : ∀ (f : Nat) (u : Int) (zs : List PV), 0 ≤ u → u < 128 ^ (f + 1) → zs ++ numP f u = numP 5 n → zs.length + f ≤ 5 → R [(0, .view (.b 0) (g + zs.length) 1 (ys.length + zs.length)), (5, .p (.int .u32 u))] ([.buf (g + zs.length) 1 (ys ++ zs)] ++ rest) [] := by
    intro f
    induction f with
    | zero =>
      intro u zs g0 g1 g2 g3
      exact fin u zs (by simpa using g1) g2 (by omega)
    | succ f ih =>
      intro u zs g0 g1 g2 g3
      have e0 : numP (f + 1) u = if 128 ≤ u then contP u :: numP f (u / 128) else [.int .u8 (IntKind.u8.wrap u)] := rfl
      rw [e0] at g2
      by_cases h : 128 ≤ u
      · rw [if_pos h] at g2
        refine hR _ _ _ ?_
        (conv => whnf)
        refine splitB_t (decide_eq_true (by omega)) ?_
        (conv => whnf)
        refine ⟨rfl, ?_⟩
        (conv => whnf)
        refine ⟨⟨rfl, rfl, rfl, by simp⟩, by simp [room]; omega, ys ++ (zs ++ [contP u]), by rw [List.take_of_length_le (by simp), List.append_assoc]; rfl, ?_⟩
        (conv => whnf)
        refine ⟨by omega, ?_⟩
        (conv => whnf)
        have hp : (128 : Int) ^ (f + 1 + 1) = 128 * 128 ^ (f + 1) := by rw [Int.pow_succ, Int.mul_comm]
        have q := ih (u / 128) (zs ++ [contP u]) (by omega) (by rw [hp] at g1; omega) (by rw [← g2]; simp) (by simp; omega)
        have hs : u.fdiv (2 ^ (min (Int.toNat 7) 32)) = u / 128 := by
          rw [Int.fdiv_eq_ediv_of_nonneg _ (by decide)]
          rfl
        have e1 : (zs ++ [contP u]).length = zs.length + 1 := by simp
        rw [e1] at q
        rw [← hs] at q
        exact q
      · rw [if_neg h] at g2
        exact fin u zs (by omega) g2 (by omega)
  have hpow : n < (128 : Int) ^ (5 + 1) := by
    have : (128 : Int) ^ (5 + 1) = 4398046511104 := by decide
    omega
  have q := key 5 n [] h0 hpow rfl (by simp)
  rw [List.append_nil] at q
  exact q

end Go.Proofs.YtgdimfogijfmiaaDoor.AD

namespace Go.Proofs.YtgdimfogijfmiaaDoor.AD
open Go.Proofs
set_option linter.unusedVariables false
set_option linter.unusedSimpArgs false
set_option maxRecDepth 100000

def hasA (op : Int) : Bool := decide (op = 1 ∨ op = 2 ∨ op = 3 ∨ op = 4 ∨ op = 34 ∨ op = 26 ∨ op = 27 ∨ op = 28 ∨ op = 29 ∨ op = 37)
def hasB (op : Int) : Bool := decide (op = 37)
def fitsB (n : Int) : Bool := decide (0 ≤ n) && decide (n ≤ 2147483647)
def insOk (x : Ins) : Bool := decide (1 ≤ x.op) && decide (x.op ≤ 38) && fitsB x.a && fitsB x.b && (hasA x.op || decide (x.a = 0)) && (hasB x.op || decide (x.b = 0))
def shp (op : Int) : Int := if op = 37 then 3 else if hasA op then 1 else 0

theorem opcases (o : Int) : (o = 1 ∨ o = 2 ∨ o = 3 ∨ o = 4 ∨ o = 34 ∨ o = 26 ∨ o = 27 ∨ o = 28 ∨ o = 29 ∨ o = 37) ∨ (o ≠ 1 ∧ o ≠ 2 ∧ o ≠ 3 ∧ o ≠ 4 ∧ o ≠ 34 ∧ o ≠ 26 ∧ o ≠ 27 ∧ o ≠ 28 ∧ o ≠ 29 ∧ o ≠ 37) := by omega

theorem hasA_spec (o : Int) : pureF Tryd.prog 51 [.p (.int .u8 o)] (.p (.bool (hasA o))) := by
  refine pureF_of f51_ok fun H => ?_
  rcases opcases o with (rfl | rfl | rfl | rfl | rfl | rfl | rfl | rfl | rfl | rfl) | ⟨n1, n2, n3, n4, n34, n26, n27, n28, n29, n37⟩
  all_goals repeat' ((conv => whnf); first | refine splitB_t rfl ?_ | refine splitB_f rfl ?_ | (refine splitB_f (beq_eq_false_iff_ne.2 ?_) ?_; (first | exact n1 | exact n2 | exact n3 | exact n4 | exact n34 | exact n26 | exact n27 | exact n28 | exact n29)))
  all_goals (try (conv => whnf))
  all_goals first
    | exact ⟨rfl, rfl⟩
    | exact ⟨congrArg (fun n => AV.p (PV.bool n)) (by rw [beq_eq_false_iff_ne.2 n37, hasA, decide_eq_false (by omega)]), rfl⟩
theorem hasB_spec (o : Int) : pureF Tryd.prog 52 [.p (.int .u8 o)] (.p (.bool (hasB o))) := by
  refine pureF_of f52_ok fun H => ?_
  (conv => whnf)
  exact ⟨congrArg (fun n => AV.p (PV.bool n)) (by rw [hasB, Bool.eq_iff_iff]; simp), rfl⟩
theorem codeOf_spec (o : Int) : pureF Tryd.prog 33 [.p (.int .u8 o)] (.p (.int .u8 (shp o))) := by
  refine pureF_of f33_ok fun H => ?_
  rcases opcases o with (rfl | rfl | rfl | rfl | rfl | rfl | rfl | rfl | rfl | rfl) | ⟨n1, n2, n3, n4, n34, n26, n27, n28, n29, n37⟩
  all_goals repeat' ((conv => whnf); first | refine splitB_t rfl ?_ | refine splitB_f rfl ?_ | (refine splitB_f (beq_eq_false_iff_ne.2 ?_) ?_; (first | exact n1 | exact n2 | exact n3 | exact n4 | exact n34 | exact n26 | exact n27 | exact n28 | exact n29 | exact n37)))
  all_goals (try (conv => whnf))
  all_goals first
    | exact ⟨rfl, rfl⟩
    | exact ⟨congrArg (fun n => AV.p (PV.int .u8 n)) (by rw [shp, if_neg n37, hasA, decide_eq_false (by omega)]; rfl), rfl⟩
theorem fits_spec (n : Int) : pureF Tryd.prog 48 [.p (.int .i64 n)] (.p (.bool (fitsB n))) := by
  refine pureF_of f48_ok fun H => ?_
  (conv => whnf)
  refine splitB_dec (fun h => ?_) (fun h => ?_)
  · exact ⟨congrArg (fun n => AV.p (PV.bool n)) (by rw [fitsB, decide_eq_true (by omega : 0 ≤ n)]; rfl), rfl⟩
  · exact ⟨congrArg (fun n => AV.p (PV.bool n)) (by rw [fitsB, decide_eq_false (by omega : ¬ 0 ≤ n)]; rfl), rfl⟩

theorem instr_spec (x : Ins) : pureF Tryd.prog 50 [.p (insP x)] (.p (.bool (insOk x))) := by
  obtain ⟨o, a, b⟩ := x
  have hA := hasA_spec o
  have hB := hasB_spec o
  have hfa := fits_spec a
  have hfb := fits_spec b
  have hdef : insOk ⟨o, a, b⟩ = (decide (1 ≤ o) && decide (o ≤ 38) && fitsB a && fitsB b && (hasA o || decide (a = 0)) && (hasB o || decide (b = 0))) := rfl
  refine pureF_of f50_ok fun H => ?_
  generalize hasA o = va at hA hdef
  generalize hasB o = vb at hB hdef
  generalize fitsB a = fa at hfa hdef
  generalize fitsB b = fb at hfb hdef
  repeat' ((conv => whnf); first | refine CallVC.pureF hA rfl ?_ | refine CallVC.pureF hB rfl ?_ | refine CallVC.pureF hfa rfl ?_ | refine CallVC.pureF hfb rfl ?_ | refine splitB_t rfl ?_ | refine splitB_f rfl ?_ | refine splitB_dec (fun h => ?_) (fun h => ?_) | refine splitB_eq (fun h => ?_) (fun h => ?_) | refine splitB_intro (fun h => ?_) (fun h => ?_))
  all_goals (try (conv => whnf))
  all_goals refine ⟨congrArg (fun n => AV.p (PV.bool n)) ?_, rfl⟩
  all_goals rw [hdef]
  all_goals clear hA hB hfa hfb hdef
  all_goals first
    | (simp_all; done)
    | (simp_all; omega)
    | (simp_all; intros; omega)
    | (rw [Bool.eq_iff_iff]; simp_all; done)
    | (rw [Bool.eq_iff_iff]; simp_all; omega)

def rightB (n : Int) (m : Bool) : Bool := decide (n = 0) || (m && decide (0 < n) && decide (n ≤ 2147483647))
theorem right_code_spec (n : Int) (m : Bool) : pureF Tryd.prog 22 [.p (.int .i64 n), .p (.bool m)] (.p (.bool (rightB n m))) := by
  refine pureF_of f22_ok fun H => ?_
  have hdef : rightB n m = (decide (n = 0) || (m && decide (0 < n) && decide (n ≤ 2147483647))) := rfl
  repeat' ((conv => whnf); first | refine splitB_t rfl ?_ | refine splitB_f rfl ?_ | refine splitB_dec (fun h => ?_) (fun h => ?_) | refine splitB_eq (fun h => ?_) (fun h => ?_) | refine splitB_intro (fun h => ?_) (fun h => ?_))
  all_goals (try (conv => whnf))
  all_goals exact ⟨congrArg (fun n => AV.p (PV.bool n)) (by rw [hdef]; simp_all <;> (intros; omega)), rfl⟩

theorem shp_and1 (o : Int) : (IntKind.u8.wrap (BitVec.ofInt 8 (shp o) &&& BitVec.ofInt 8 1).toNat != 0) = hasA o := by
  rw [shp]
  split
  · rename_i h; subst h; decide
  · split
    · rename_i h; rw [h]; decide
    · rename_i h; have h : hasA o = false := by simpa using h
      rw [h]; decide
theorem shp_and2 (o : Int) : (IntKind.u8.wrap (BitVec.ofInt 8 (shp o) &&& BitVec.ofInt 8 2).toNat != 0) = hasB o := by
  rw [shp]
  split
  · rename_i h; subst h; decide
  · rename_i h0
    have hb : hasB o = false := by rw [hasB, decide_eq_false h0]
    rw [hb]
    split <;> decide

theorem codeWrong_spec (x : Ins) : pureF Tryd.prog 24 [.p (insP x)] (.p (.bool (!insOk x))) := by
  obtain ⟨o, a, b⟩ := x
  have ho := codeOf_spec o
  have hra := right_code_spec a (IntKind.u8.wrap (BitVec.ofInt 8 (shp o) &&& BitVec.ofInt 8 1).toNat != 0)
  have hrb := right_code_spec b (IntKind.u8.wrap (BitVec.ofInt 8 (shp o) &&& BitVec.ofInt 8 2).toNat != 0)
  have hdef : insOk ⟨o, a, b⟩ = (decide (1 ≤ o) && decide (o ≤ 38) && rightB a (hasA o) && rightB b (hasB o)) := by
    simp only [insOk, rightB, fitsB]
    cases hasA o <;> cases hasB o <;> simp <;> rw [Bool.eq_iff_iff] <;> simp <;> omega
  refine pureF_of f24_ok fun H => ?_
  repeat' ((conv => whnf); first | refine CallD.pureF ho rfl ?_ | refine CallD.pureF hra rfl ?_ | refine CallD.pureF hrb rfl ?_ | refine splitB_t rfl ?_ | refine splitB_f rfl ?_ | refine splitB_dec (fun h => ?_) (fun h => ?_) | refine splitB_eq (fun h => ?_) (fun h => ?_) | refine splitB_intro (fun h => ?_) (fun h => ?_))
  all_goals (try (conv => whnf))
  all_goals simp only [shp_and1, shp_and2] at *
  all_goals first
    | exact ⟨congrArg (fun n => AV.p (PV.bool n)) (by rw [hdef]; clear hra hrb ho hdef; simp_all <;> (intros; omega)), trivial⟩
    | exact ⟨congrArg (fun n => AV.p (PV.bool n)) (by rw [hdef]; clear hra hrb ho hdef; simp_all <;> (intros; omega)), rfl⟩

end Go.Proofs.YtgdimfogijfmiaaDoor.AD

namespace Go.Proofs.YtgdimfogijfmiaaDoor.AD
open Go.Proofs
set_option linter.unusedVariables false
set_option linter.unusedSimpArgs false
set_option maxRecDepth 100000

def insSz (x : Ins) : Int := 1 + (if hasA x.op then szN 5 x.a else 0) + (if hasB x.op then szN 5 x.b else 0)
def codeSz : List Ins → Int
  | [] => 0
  | x :: r => insSz x + codeSz r
def txtSz : List ByteArray → Int
  | [] => 0
  | t :: r => szN 5 t.size + t.size + txtSz r
theorem insSz_range (x : Ins) : 1 ≤ insSz x ∧ insSz x ≤ 13 := by
  have h1 := szN_range 5 x.a
  have h2 := szN_range 5 x.b
  simp only [insSz]
  (repeat' split) <;> omega
theorem codeSz_range (C : List Ins) : 0 ≤ codeSz C ∧ codeSz C ≤ 13 * C.length := by
  induction C with
  | nil => simp [codeSz]
  | cons x r ih => have := insSz_range x; simp only [codeSz, List.length_cons]; omega
theorem txtSz_nonneg (T : List ByteArray) : 0 ≤ txtSz T := by
  induction T with
  | nil => simp [txtSz]
  | cons t r ih => have := szN_range 5 t.size; simp only [txtSz]; omega

def hdSz (T : List ByteArray) (C : List Ins) (S : Int) : Int := 3 + szN 5 S + szN 5 T.length + szN 5 C.length
def errP (κ : Int) (T : List ByteArray) (C : List Ins) (S : Int) : Int :=
  if 32768 < C.length ∨ 8192 < T.length then 3
  else if (κ ≠ 1 ∧ κ ≠ 2) ∨ fitsB S = false ∨ C.all insOk = false then 210
  else if 1048576 < hdSz T C S + codeSz C + txtSz T then 3 else 0
def encPg (κ : Int) (T : List ByteArray) (C : List Ins) (S : Int) : PV := .agg [.int .u8 κ, .list 1 (tP T), .list 3 (cP C), .int .i64 S]
theorem cP_get {C : List Ins} {i : Nat} {x : Ins} (h : C[i]? = some x) : (cP C)[i]? = some (insP x) := by rw [cP, List.getElem?_map, h]; rfl
theorem tP_get {T : List ByteArray} {i : Nat} {x : ByteArray} (h : T[i]? = some x) : (tP T)[i]? = some (.str x) := by rw [tP, List.getElem?_map, h]; rfl

theorem insOk_fits {x : Ins} (h : insOk x = true) : (0 ≤ x.a ∧ x.a ≤ 2147483647) ∧ 0 ≤ x.b ∧ x.b ≤ 2147483647 := by
  simp only [insOk, fitsB, Bool.and_eq_true, decide_eq_true_eq] at h
  omega

theorem refCheck21_spec (κ : Int) (T : List ByteArray) (C : List Ins) (S : Int) (hTl : T.length ≤ 1000000000) (hCl : C.length ≤ 1000000000) (hts : ∀ t, t ∈ T → t.size ≤ 1000000000) : pureF Tryd.prog 36 [.p (encPg κ T C S)] (.p (.int .i64 (errP κ T C S))) := by
  have hT := tP_len T
  have hC := cP_len C
  have hfS := fits_spec S
  refine pureF_of f36_ok fun H => ?_
  (conv => whnf)
  by_cases hlim : 32768 < C.length ∨ 8192 < T.length
  · have e : errP κ T C S = 3 := by rw [errP, if_pos hlim]
    rw [e]
    refine splitB_dec (fun h => ?_) (fun h => ?_)
    · (conv => whnf)
      refine splitB_t rfl ?_
      exact ⟨rfl, rfl⟩
    · (conv => whnf)
      refine splitB_t (decide_eq_true (by omega)) ?_
      exact ⟨rfl, rfl⟩
  · refine splitB_f (decide_eq_false (by omega)) ?_
    (conv => whnf)
    refine splitB_f (decide_eq_false (by omega)) ?_
    (conv => whnf)
    have hsS : 0 ≤ S → S ≤ 2147483647 → _ := fun a b => size_spec S a b
    have hsT := size_spec T.length (by omega) (by omega)
    have hsC := size_spec C.length (by omega) (by omega)
    have hh1 := szN_range 5 S
    have hh2 := szN_range 5 T.length
    have hh3 := szN_range 5 C.length
    have last : (κ = 1 ∨ κ = 2) → fitsB S = true → W Tryd.prog f36.c50 [(1, .ref (.l 0) 0)] H [.cells [.p (.int .u8 κ), .p (.list 1 (tP T)), .p (.list 3 (cP C)), .p (.int .i64 S)]] (endQ f36 fun r' H' => r' = .p (.int .i64 (errP κ T C S)) ∧ H' = H) := by
      intro hk hS
      have hS' : 0 ≤ S ∧ S ≤ 2147483647 := by simpa [fitsB] using hS
      have e1 : errP κ T C S = if C.all insOk = false then 210 else if 1048576 < hdSz T C S + codeSz C + txtSz T then 3 else 0 := by
        rw [errP, if_neg hlim]
        by_cases h : C.all insOk = false
        · rw [if_pos (.inr (.inr h)), if_pos h]
        · rw [if_neg (by rw [hS]; simp; exact ⟨by omega, by simpa using h⟩), if_neg h]
      (conv => whnf)
      refine CallD.pureF (hsS hS'.1 hS'.2) rfl ?_
      (conv => whnf)
      rw [IntWalk.i64_in (3 + szN 5 S) (by omega), hT]
      refine CallD.pureF hsT rfl ?_
      (conv => whnf)
      rw [IntWalk.i64_in (3 + szN 5 S + szN 5 T.length) (by omega), hC]
      refine CallD.pureF hsC rfl ?_
      (conv => whnf)
      rw [IntWalk.i64_in (3 + szN 5 S + szN 5 T.length + szN 5 C.length) (by omega)]
      have hhd : hdSz T C S = 3 + szN 5 S + szN 5 T.length + szN 5 C.length := rfl
      intro R hR
      have texts : C.all insOk = true → ∀ n0 : Int, n0 = hdSz T C S + codeSz C → (0 ≤ n0 ∧ n0 ≤ 1000000) → W Tryd.prog f36.c48 [(1, .ref (.l 0) 0), (3, .p (.int .i64 n0))] H [.cells [.p (.int .u8 κ), .p (.list 1 (tP T)), .p (.list 3 (cP C)), .p (.int .i64 S)]] (endQ f36 fun r' H' => r' = .p (.int .i64 (errP κ T C S)) ∧ H' = H) := by
        intro hall n0 hn0 hnb
        rw [if_neg (by rw [hall]; simp), ← hn0] at e1
        (conv => whnf)
        intro R2 hR2
        have key : ∀ (rest : List ByteArray) (i : Nat) (n : Int), T.drop i = rest → 0 ≤ n → n ≤ 2000000000000 → n + txtSz rest = n0 + txtSz T → R2 [(1, .ref (.l 0) 0), (3, .p (.int .i64 n)), (6, .p (.int .i64 i))] H [.cells [.p (.int .u8 κ), .p (.list 1 (tP T)), .p (.list 3 (cP C)), .p (.int .i64 S)]] := by
          intro rest
          induction rest with
          | nil =>
            intro i n hd g0 g1 hq
            have hl := drop_nil hd
            have htot : n = n0 + txtSz T := by simp only [txtSz] at hq; omega
            refine hR2 _ _ _ ?_
            (conv => whnf)
            refine splitB_f (decide_eq_false (by omega)) ?_
            (conv => whnf)
            refine splitB_f rfl ?_
            (conv => whnf)
            refine splitB_dec (fun h => ?_) (fun h => ?_)
            · exact ⟨by rw [e1, if_pos (by omega)], rfl⟩
            · exact ⟨by rw [e1, if_neg (by omega)], rfl⟩
          | cons t r ihr =>
            intro i n hd g0 g1 hq
            obtain ⟨hg, hd', hi⟩ := drop_cons hd
            have hsz := hts t (List.mem_of_getElem? hg)
            have hst := size_spec t.size (by omega) (by omega)
            have hrg := szN_range 5 t.size
            have hnn := txtSz_nonneg r
            simp only [txtSz] at hq
            refine hR2 _ _ _ ?_
            (conv => whnf)
            refine splitB_t (decide_eq_true (by omega)) ?_
            (conv => whnf)
            refine splitB_dec (fun h => ?_) (fun h => ?_)
            · (conv => whnf)
              refine ⟨rfl, .str t, ⟨by omega, tP_get hg⟩, ?_⟩
              (conv => whnf)
              refine CallD.pureF hst rfl ?_
              (conv => whnf)
              rw [IntWalk.i64_in (n + szN 5 t.size) (by omega)]
              refine ⟨rfl, .str t, ⟨by omega, tP_get hg⟩, ?_⟩
              (conv => whnf)
              rw [IntWalk.i64_in (n + szN 5 t.size + t.size) (by omega), IntWalk.i64_in (i + 1) (by omega)]
              exact ihr (i + 1) _ hd' (by omega) (by omega) (by omega)
            · (conv => whnf)
              refine splitB_t (decide_eq_true (by omega)) ?_
              exact ⟨by rw [e1, if_pos (by omega)], rfl⟩
        exact key T 0 n0 rfl hnb.1 (by omega) rfl
      have key : ∀ (rest : List Ins) (i : Nat) (n : Int), C.drop i = rest → 0 ≤ n → n ≤ 22 + 13 * i → n + codeSz rest = hdSz T C S + codeSz C → C.all insOk = rest.all insOk → R [(1, .ref (.l 0) 0), (3, .p (.int .i64 n)), (4, .p (.int .i64 i))] H [.cells [.p (.int .u8 κ), .p (.list 1 (tP T)), .p (.list 3 (cP C)), .p (.int .i64 S)]] := by
        intro rest
        induction rest with
        | nil =>
          intro i n hd g0 g1 hq ha
          have hl := drop_nil hd
          refine hR _ _ _ ?_
          (conv => whnf)
          refine splitB_f (decide_eq_false (by omega)) ?_
          have hr := codeSz_range C
          have q := texts (by rw [ha]; rfl) n (by simp only [codeSz] at hq; omega) (by simp only [codeSz] at hq; omega)
          (conv at q => whnf)
          (conv => whnf)
          exact q
        | cons x r ihr =>
          intro i n hd g0 g1 hq ha
          obtain ⟨hg, hd', hi⟩ := drop_cons hd
          have hins := instr_spec x
          have hA := hasA_spec x.op
          have hB := hasB_spec x.op
          have hrg := insSz_range x
          have hdef : insSz x = 1 + (if hasA x.op then szN 5 x.a else 0) + (if hasB x.op then szN 5 x.b else 0) := rfl
          have hra := szN_range 5 x.a
          have hrb := szN_range 5 x.b
          simp only [codeSz] at hq
          rw [List.all_cons] at ha
          cases hok : insOk x with
          | false =>
            have e2 : errP κ T C S = 210 := by rw [e1, if_pos (by rw [ha, hok]; rfl)]
            rw [hok] at hins
            refine hR _ _ _ ?_
            (conv => whnf)
            refine splitB_t (decide_eq_true (by omega)) ?_
            (conv => whnf)
            refine ⟨rfl, insP x, ⟨by omega, cP_get hg⟩, ?_⟩
            (conv => whnf)
            refine CallVC.pureF hins rfl ?_
            (conv => whnf)
            refine splitB_t rfl ?_
            exact ⟨by rw [e2], rfl⟩
          | true =>
            obtain ⟨⟨a1, a2⟩, b1, b2⟩ := insOk_fits hok
            have hsa := size_spec x.a a1 a2
            have hsb := size_spec x.b b1 b2
            rw [hok, Bool.true_and] at ha
            rw [hok] at hins
            have next := fun n' (hn' : n' = n + insSz x) => ihr (i + 1) n' hd' (by omega) (by push_cast; omega) (by omega) ha
            generalize hasA x.op = va at hA hdef
            generalize hasB x.op = vb at hB hdef
            refine hR _ _ _ ?_
            (conv => whnf)
            refine splitB_t (decide_eq_true (by omega)) ?_
            (conv => whnf)
            refine ⟨rfl, insP x, ⟨by omega, cP_get hg⟩, ?_⟩
            (conv => whnf)
            refine CallVC.pureF hins rfl ?_
            (conv => whnf)
            refine splitB_f rfl ?_
            (conv => whnf)
            rw [IntWalk.i64_in (n + 1) (by omega)]
            refine CallVC.pureF hA rfl ?_
            cases va <;> cases vb
            all_goals simp only [Bool.false_eq_true, if_false, if_true] at hdef
            all_goals repeat' ((conv => whnf); first | refine splitB_t rfl ?_ | refine splitB_f rfl ?_ | refine CallVC.pureF hB rfl ?_ | refine CallVC.pureF hsa rfl ?_ | refine CallVC.pureF hsb rfl ?_)
            all_goals (try (conv => whnf))
            · rw [IntWalk.i64_in (i + 1) (by omega)]
              exact next _ (by omega)
            · rw [IntWalk.i64_in (n + 1 + szN 5 x.b) (by omega), IntWalk.i64_in (i + 1) (by omega)]
              exact next _ (by omega)
            · rw [IntWalk.i64_in (n + 1 + szN 5 x.a) (by omega), IntWalk.i64_in (i + 1) (by omega)]
              exact next _ (by omega)
            · rw [IntWalk.i64_in (n + 1 + szN 5 x.a) (by omega), IntWalk.i64_in (n + 1 + szN 5 x.a + szN 5 x.b) (by omega), IntWalk.i64_in (i + 1) (by omega)]
              exact next _ (by omega)
      exact key C 0 _ rfl (by omega) (by omega) rfl rfl
    have bad : ((κ ≠ 1 ∧ κ ≠ 2) ∨ fitsB S = false) → errP κ T C S = 210 := fun h => by
      rw [errP, if_neg hlim, if_pos]
      rcases h with h | h
      · exact .inl h
      · exact .inr (.inl h)
    rcases (show κ = 1 ∨ κ = 2 ∨ (κ ≠ 1 ∧ κ ≠ 2) by omega) with hk | hk | ⟨n1, n2⟩
    · subst hk
      cases hS : fitsB S with
      | false =>
        rw [hS] at hfS
        repeat' ((conv => whnf); first | refine CallVC.pureF hfS rfl ?_ | refine splitB_t rfl ?_ | refine splitB_f rfl ?_)
        exact ⟨by rw [bad (.inr hS)], rfl⟩
      | true =>
        rw [hS] at hfS
        have q := last (.inl rfl) hS
        (conv at q => whnf)
        (conv => whnf)
        repeat' ((conv => whnf); first | refine CallVC.pureF hfS rfl ?_ | refine splitB_t rfl ?_ | refine splitB_f rfl ?_)
        (conv => whnf)
        exact q
    · subst hk
      cases hS : fitsB S with
      | false =>
        rw [hS] at hfS
        repeat' ((conv => whnf); first | refine CallVC.pureF hfS rfl ?_ | refine splitB_t rfl ?_ | refine splitB_f rfl ?_)
        exact ⟨by rw [bad (.inr hS)], rfl⟩
      | true =>
        rw [hS] at hfS
        have q := last (.inr rfl) hS
        (conv at q => whnf)
        repeat' ((conv => whnf); first | refine CallVC.pureF hfS rfl ?_ | refine splitB_t rfl ?_ | refine splitB_f rfl ?_)
        (conv => whnf)
        exact q
    · have e := bad (.inl ⟨n1, n2⟩)
      rw [e]
      repeat' ((conv => whnf); first | refine splitB_t (bne_iff_ne.2 n1) ?_ | refine splitB_t (bne_iff_ne.2 n2) ?_ | refine splitB_t rfl ?_ | refine splitB_f rfl ?_)
      all_goals (try (conv => whnf))
      all_goals exact ⟨rfl, rfl⟩

end Go.Proofs.YtgdimfogijfmiaaDoor.AD

namespace Go.Proofs.YtgdimfogijfmiaaDoor.AD
open Go.Proofs
set_option linter.unusedVariables false
set_option linter.unusedSimpArgs false
set_option maxRecDepth 100000

theorem put_at (n : Int) (h0 : 0 ≤ n) (h1 : n ≤ 2147483647) (g len : Nat) (ys : List PV) (hl : len = ys.length) (hy : ys.length ≤ 35184372088832) :
    MethV Tryd.prog 42 [.view (.b 0) g 1 len, .p (.int .i64 n)] [.buf g 1 ys] (.view (.b 0) (g + (numP 5 n).length) 1 (len + (numP 5 n).length)) [.buf (g + (numP 5 n).length) 1 (ys ++ numP 5 n)] := by
  subst hl
  exact put_code_spec n h0 h1 g ys hy

def pgCells (κ : Int) (T : List ByteArray) (C : List Ins) (S : Int) : Ob := .cells [.p (.int .u8 κ), .p (.list 1 (tP T)), .p (.list 3 (cP C)), .p (.int .i64 S)]

theorem write_in (κ : Int) (T : List ByteArray) (C : List Ins) (S : Int) (hTl : T.length ≤ 8192) (hCl : C.length ≤ 32768) (hS : 0 ≤ S ∧ S ≤ 2147483647) (hok : C.all insOk = true) (K : AV → List Ob → List Ob → Prop)
    (h : ∀ (m g : Nat) (ys : List PV) (lo' : List Ob), lo'[m]? = some (.buf g 1 ys) → (1048576 < (ys.length : Int) ↔ 1048576 < hdSz T C S + codeSz C + txtSz T) → (ys.length : Int) ≤ 9000000000 → K (.view (.l m) g 1 ys.length) [] lo') :
    CallVC Tryd.prog 25 [.p (encPg κ T C S)] [] [pgCells κ T C S, pgCells κ T C S] K := by
  have hT := tP_len T
  have hC := cP_len C
  have hdef : hdSz T C S = 3 + szN 5 S + szN 5 T.length + szN 5 C.length := rfl
  have l1 := numP_len 5 S
  have l2 := numP_len 5 T.length
  have l3 := numP_len 5 C.length
  have r1 := szN_range 5 S
  have r2 := szN_range 5 T.length
  have r3 := szN_range 5 C.length
  refine CallVC.inline f25_ok ?_
  (conv => whnf)
  refine CallVC.methV' [3, 0, 1, 2] 4 [pgCells κ T C S, pgCells κ T C S, pgCells κ T C S, .buf (0 + (numP 5 S).length) 1 ([.int .u8 86, .int .u8 80, .int .u8 κ] ++ numP 5 S)] (.view (.l 3) (0 + (numP 5 S).length) 1 (3 + (numP 5 S).length))
    (put_at S hS.1 hS.2 0 3 [.int .u8 86, .int .u8 80, .int .u8 κ] rfl (by simp)) rfl rfl rfl rfl rfl rfl (by decide) (by decide) rfl ?_
  (conv => whnf)
  rw [hT]
  generalize hy1 : ([.int .u8 86, .int .u8 80, .int .u8 κ] : List PV) ++ numP 5 S = y1
  generalize hg1 : 0 + (numP 5 S).length = g1
  generalize hn1 : 3 + (numP 5 S).length = n1
  have e1 : n1 = y1.length := by rw [← hn1, ← hy1]; simp; omega
  have b1 : n1 ≤ 10 := by omega
  refine CallVC.methV' [3, 0, 1, 2] 4 [pgCells κ T C S, pgCells κ T C S, pgCells κ T C S, .buf (g1 + (numP 5 T.length).length) 1 (y1 ++ numP 5 T.length)] (.view (.l 3) (g1 + (numP 5 T.length).length) 1 (n1 + (numP 5 T.length).length))
    (put_at T.length (by omega) (by omega) g1 n1 y1 e1 (by omega)) rfl rfl rfl rfl rfl rfl (by decide) (by decide) rfl ?_
  (conv => whnf)
  generalize hy2 : y1 ++ numP 5 T.length = y2
  generalize hg2 : g1 + (numP 5 T.length).length = g2
  generalize hn2 : n1 + (numP 5 T.length).length = n2
  have e2 : n2 = y2.length := by rw [← hn2, ← hy2, e1]; simp
  have t2 : (n2 : Int) + szN 5 C.length = hdSz T C S := by omega
  have codes : ∀ (g n : Nat) (ys : List PV), n = ys.length → (n : Int) + szN 5 C.length = hdSz T C S + txtSz T → n ≤ 2000000 → W Tryd.prog f25.c48 [(1, .ref (.l 2) 0), (3, .view (.l 3) g 1 n)] [] [pgCells κ T C S, pgCells κ T C S, pgCells κ T C S, .buf g 1 ys] (endI f25 K) := by
    intro g n ys hn ht hb
    (conv => whnf)
    rw [hC]
    refine CallVC.methV' [3, 0, 1, 2] 4 [pgCells κ T C S, pgCells κ T C S, pgCells κ T C S, .buf (g + (numP 5 C.length).length) 1 (ys ++ numP 5 C.length)] (.view (.l 3) (g + (numP 5 C.length).length) 1 (n + (numP 5 C.length).length))
      (put_at C.length (by omega) (by omega) g n ys hn (by omega)) rfl rfl rfl rfl rfl rfl (by decide) (by decide) rfl ?_
    (conv => whnf)
    generalize hy2 : ys ++ numP 5 C.length = zs
    generalize hg2 : g + (numP 5 C.length).length = gz
    generalize hn2 : n + (numP 5 C.length).length = nz
    have ez : nz = zs.length := by rw [← hn2, ← hy2, hn]; simp
    have tz : (nz : Int) = hdSz T C S + txtSz T := by omega
    have bz : nz ≤ 2000010 := by omega
    intro R hR
    have key : ∀ (rest : List Ins) (i g n : Nat) (ys : List PV), C.drop i = rest → i ≤ C.length → n = ys.length → (n : Int) + codeSz rest = hdSz T C S + codeSz C + txtSz T → n ≤ 2000010 + 13 * i → R [(3, .view (.l 3) g 1 n), (47, .p (.list 3 (cP C))), (48, .p (.int .i64 (cP C).length)), (49, .p (.int .i64 i))] [] [pgCells κ T C S, pgCells κ T C S, pgCells κ T C S, .buf g 1 ys] := by
      intro rest
      induction rest with
      | nil =>
        intro i g n ys hd hil hn ht hb
        have hl := drop_nil hd
        simp only [codeSz] at ht
        refine hR _ _ _ ?_
        (conv => whnf)
        refine splitB_f (decide_eq_false (by omega)) ?_
        (conv => whnf)
        have q := h 3 g ys [pgCells κ T C S, pgCells κ T C S, pgCells κ T C S, .buf g 1 ys] rfl (by omega) (by omega)
        rw [← hn] at q
        exact q
      | cons x r ihr =>
        intro i g n ys hd hil hn ht hb
        obtain ⟨hg, hd', hi⟩ := drop_cons hd
        have hx : insOk x = true := by
          rw [List.all_eq_true] at hok
          exact hok x (List.mem_of_getElem? hg)
        obtain ⟨⟨a1, a2⟩, b1', b2'⟩ := insOk_fits hx
        have ho := codeOf_spec x.op
        have hA : (IntKind.u8.wrap (BitVec.ofInt IntKind.u8.bits (shp x.op) &&& BitVec.ofInt IntKind.u8.bits 1).toNat != 0) = hasA x.op := shp_and1 x.op
        have hB : (IntKind.u8.wrap (BitVec.ofInt IntKind.u8.bits (shp x.op) &&& BitVec.ofInt IntKind.u8.bits 2).toNat != 0) = hasB x.op := shp_and2 x.op
        have hdx : insSz x = 1 + (if hasA x.op then szN 5 x.a else 0) + (if hasB x.op then szN 5 x.b else 0) := rfl
        have hra := szN_range 5 x.a
        have hrb := szN_range 5 x.b
        have la := numP_len 5 x.a
        have lb := numP_len 5 x.b
        simp only [codeSz] at ht
        refine hR _ _ _ ?_
        (conv => whnf)
        refine splitB_t (decide_eq_true (by omega)) ?_
        (conv => whnf)
        refine ⟨rfl, insP x, ⟨by omega, cP_get hg⟩, ?_⟩
        (conv => whnf)
        refine ⟨rfl, ?_⟩
        (conv => whnf)
        refine ⟨⟨rfl, rfl, rfl, by omega⟩, by simp [room]; omega, ys ++ [.int .u8 x.op], by rw [List.take_of_length_le (by omega)], ?_⟩
        (conv => whnf)
        refine CallVC.pureF ho rfl ?_
        (conv => whnf)
        rw [hA]
        generalize hasA x.op = va at hA hdx
        generalize hasB x.op = vb at hB hdx
        cases va <;> cases vb
        all_goals simp only [Bool.false_eq_true, if_false, if_true] at hdx
        · refine splitB_f rfl ?_
          (conv => whnf)
          refine CallVC.pureF ho rfl ?_
          (conv => whnf)
          rw [hB]
          refine splitB_f rfl ?_
          (conv => whnf)
          rw [IntWalk.i64_in (i + 1) (by omega)]
          exact ihr (i + 1) (g + 1) (n + 1) (ys ++ [.int .u8 x.op]) hd' (by omega) (by rw [hn]; simp <;> omega) (by push_cast; omega) (by push_cast; omega)
        · refine splitB_f rfl ?_
          (conv => whnf)
          refine CallVC.pureF ho rfl ?_
          (conv => whnf)
          rw [hB]
          refine splitB_t rfl ?_
          (conv => whnf)
          refine CallVC.methV' [3, 0, 1, 2, 4] 5 [pgCells κ T C S, pgCells κ T C S, pgCells κ T C S, .buf (g + 1 + (numP 5 x.b).length) 1 (ys ++ [.int .u8 x.op] ++ numP 5 x.b), .cells [.p (.int .u8 x.op), .p (.int .i64 x.a), .p (.int .i64 x.b)]] (.view (.l 3) (g + 1 + (numP 5 x.b).length) 1 (n + 1 + (numP 5 x.b).length))
            (put_at x.b b1' b2' (g + 1) (n + 1) (ys ++ [.int .u8 x.op]) (by rw [hn]; simp <;> omega) (by simp; omega)) rfl rfl rfl rfl rfl rfl (by decide) (by decide) rfl ?_
          (conv => whnf)
          rw [IntWalk.i64_in (i + 1) (by omega)]
          exact ihr (i + 1) (g + 1 + (numP 5 x.b).length) (n + 1 + (numP 5 x.b).length) (ys ++ [.int .u8 x.op] ++ numP 5 x.b) hd' (by omega) (by rw [hn]; simp <;> omega) (by push_cast; omega) (by push_cast; omega)
        · refine splitB_t rfl ?_
          (conv => whnf)
          refine CallVC.methV' [3, 0, 1, 2, 4] 5 [pgCells κ T C S, pgCells κ T C S, pgCells κ T C S, .buf (g + 1 + (numP 5 x.a).length) 1 (ys ++ [.int .u8 x.op] ++ numP 5 x.a), .cells [.p (.int .u8 x.op), .p (.int .i64 x.a), .p (.int .i64 x.b)]] (.view (.l 3) (g + 1 + (numP 5 x.a).length) 1 (n + 1 + (numP 5 x.a).length))
            (put_at x.a a1 a2 (g + 1) (n + 1) (ys ++ [.int .u8 x.op]) (by rw [hn]; simp <;> omega) (by simp; omega)) rfl rfl rfl rfl rfl rfl (by decide) (by decide) rfl ?_
          (conv => whnf)
          refine CallVC.pureF ho rfl ?_
          (conv => whnf)
          rw [hB]
          refine splitB_f rfl ?_
          (conv => whnf)
          rw [IntWalk.i64_in (i + 1) (by omega)]
          exact ihr (i + 1) (g + 1 + (numP 5 x.a).length) (n + 1 + (numP 5 x.a).length) (ys ++ [.int .u8 x.op] ++ numP 5 x.a) hd' (by omega) (by rw [hn]; simp <;> omega) (by push_cast; omega) (by push_cast; omega)
        · refine splitB_t rfl ?_
          (conv => whnf)
          refine CallVC.methV' [3, 0, 1, 2, 4] 5 [pgCells κ T C S, pgCells κ T C S, pgCells κ T C S, .buf (g + 1 + (numP 5 x.a).length) 1 (ys ++ [.int .u8 x.op] ++ numP 5 x.a), .cells [.p (.int .u8 x.op), .p (.int .i64 x.a), .p (.int .i64 x.b)]] (.view (.l 3) (g + 1 + (numP 5 x.a).length) 1 (n + 1 + (numP 5 x.a).length))
            (put_at x.a a1 a2 (g + 1) (n + 1) (ys ++ [.int .u8 x.op]) (by rw [hn]; simp <;> omega) (by simp; omega)) rfl rfl rfl rfl rfl rfl (by decide) (by decide) rfl ?_
          (conv => whnf)
          refine CallVC.pureF ho rfl ?_
          (conv => whnf)
          rw [hB]
          refine splitB_t rfl ?_
          (conv => whnf)
          refine CallVC.methV' [3, 0, 1, 2, 4] 5 [pgCells κ T C S, pgCells κ T C S, pgCells κ T C S, .buf (g + 1 + (numP 5 x.a).length + (numP 5 x.b).length) 1 (ys ++ [.int .u8 x.op] ++ numP 5 x.a ++ numP 5 x.b), .cells [.p (.int .u8 x.op), .p (.int .i64 x.a), .p (.int .i64 x.b)]] (.view (.l 3) (g + 1 + (numP 5 x.a).length + (numP 5 x.b).length) 1 (n + 1 + (numP 5 x.a).length + (numP 5 x.b).length))
            (put_at x.b b1' b2' (g + 1 + (numP 5 x.a).length) (n + 1 + (numP 5 x.a).length) (ys ++ [.int .u8 x.op] ++ numP 5 x.a) (by rw [hn]; simp <;> omega) (by simp; omega)) rfl rfl rfl rfl rfl rfl (by decide) (by decide) rfl ?_
          (conv => whnf)
          rw [IntWalk.i64_in (i + 1) (by omega)]
          exact ihr (i + 1) (g + 1 + (numP 5 x.a).length + (numP 5 x.b).length) (n + 1 + (numP 5 x.a).length + (numP 5 x.b).length) (ys ++ [.int .u8 x.op] ++ numP 5 x.a ++ numP 5 x.b) hd' (by omega) (by rw [hn]; simp <;> omega) (by push_cast; omega) (by push_cast; omega)
    exact key C 0 gz nz zs rfl (by omega) ez (by omega) (by omega)
  intro R hR
  have key : ∀ (rest : List ByteArray) (i g n : Nat) (ys : List PV), T.drop i = rest → n = ys.length → (n : Int) + szN 5 C.length + txtSz rest = hdSz T C S + txtSz T → n ≤ 1048600 → R [(1, .ref (.l 2) 0), (3, .view (.l 3) g 1 n), (21, .p (.list 1 (tP T))), (22, .p (.int .i64 (tP T).length)), (23, .p (.int .i64 i))] [] [pgCells κ T C S, pgCells κ T C S, pgCells κ T C S, .buf g 1 ys] := by
    intro rest
    induction rest with
    | nil =>
      intro i g n ys hd hn ht hb
      have hl := drop_nil hd
      simp only [txtSz] at ht
      refine hR _ _ _ ?_
      (conv => whnf)
      refine splitB_f (decide_eq_false (by omega)) ?_
      have q := codes g n ys hn (by omega) (by omega)
      (conv at q => whnf)
      (conv => whnf)
      exact q
    | cons t r ihr =>
      intro i g n ys hd hn ht hb
      obtain ⟨hg, hd', hi⟩ := drop_cons hd
      have hnn := txtSz_nonneg r
      have hrg := szN_range 5 t.size
      have lt := numP_len 5 t.size
      have hcc := codeSz_range C
      simp only [txtSz] at ht
      refine hR _ _ _ ?_
      (conv => whnf)
      refine splitB_t (decide_eq_true (by omega)) ?_
      (conv => whnf)
      refine ⟨rfl, .str t, ⟨by omega, tP_get hg⟩, ?_⟩
      (conv => whnf)
      refine ⟨rfl, ?_⟩
      (conv => whnf)
      rw [IntWalk.i64_in (1048576 - (n : Int)) (by omega)]
      refine splitB_dec (fun h1 => ?_) (fun h1 => ?_)
      · (conv => whnf)
        refine ⟨⟨by omega, by omega, by simp [room]⟩, List.replicate 1048577 (.int .u8 0), rfl, ?_⟩
        (conv => whnf)
        have hl : (List.replicate 1048577 (PV.int .u8 0)).length = 1048577 := List.length_replicate
        have q := h 4 0 (List.replicate 1048577 (.int .u8 0)) [pgCells κ T C S, pgCells κ T C S, pgCells κ T C S, .buf g 1 ys, .buf 0 1 (List.replicate 1048577 (.int .u8 0))] rfl (by rw [hl]; omega) (by rw [hl]; omega)
        rw [hl] at q
        exact q
      · (conv => whnf)
        refine CallVC.methV' [3, 0, 1, 2] 4 [pgCells κ T C S, pgCells κ T C S, pgCells κ T C S, .buf (g + (numP 5 t.size).length) 1 (ys ++ numP 5 t.size)] (.view (.l 3) (g + (numP 5 t.size).length) 1 (n + (numP 5 t.size).length))
          (put_at t.size (by omega) (by omega) g n ys hn (by omega)) rfl rfl rfl rfl rfl rfl (by decide) (by decide) rfl ?_
        (conv => whnf)
        have hbl : (byteInts t).length = t.size := by rw [byteInts, List.length_map, ba_size]
        refine ⟨⟨rfl, rfl, rfl, by simp; omega⟩, by simp [room, hbl]; omega, (ys ++ numP 5 t.size) ++ byteInts t, by rw [List.take_of_length_le (by simp; omega)], ?_⟩
        (conv => whnf)
        rw [hbl, IntWalk.i64_in (i + 1) (by omega)]
        exact ihr (i + 1) _ _ _ hd' (by rw [hn]; simp [hbl]; omega) (by push_cast; omega) (by omega)
  exact key T 0 g2 n2 y2 rfl e2 (by omega) (by omega)


theorem IndexFuncI_spec (xs : List Ins) (hx : (xs.length : Int) ≤ 9223372036854775807) (p : Ins → Bool) (f : Nat) (hf : enters Tryd.prog f = true) (hp : ∀ a, a ∈ xs → pureF Tryd.prog f [.p (insP a)] (.p (.bool (p a)))) :
    pureF Tryd.prog 41 [.p (.list 3 (cP xs)), .p (.fn (.func f))] (.p (.int .i64 (idxF p xs))) := by
  refine pureF_of f41_ok fun H => ?_
  (conv => whnf)
  intro R hR
  have he := cP_len xs
  have key : ∀ (rest : List Ins) (i : Nat), xs.drop i = rest → idxF p xs = (if idxF p rest = -1 then -1 else idxF p rest + i) → R [(0, .p (.list 3 (cP xs))), (1, .p (.fn (.func f))), (7, .p (.int .i64 (cP xs).length)), (8, .p (.int .i64 i))] H [] := by
    intro rest
    induction rest with
    | nil =>
      intro i hd hq
      have hl := drop_nil hd
      refine hR _ _ _ ?_
      (conv => whnf)
      refine splitB_f (decide_eq_false (by omega)) ?_
      exact ⟨by rw [hq]; rfl, rfl⟩
    | cons a r ih =>
      intro i hd hq
      obtain ⟨hg, hd', hi⟩ := drop_cons hd
      have hpa := hp a (List.mem_of_getElem? hg)
      refine hR _ _ _ ?_
      (conv => whnf)
      refine splitB_t (decide_eq_true (by omega)) ?_
      (conv => whnf)
      refine ⟨rfl, insP a, ⟨by omega, cP_get hg⟩, ?_⟩
      (conv => whnf)
      refine ⟨hf, ?_⟩
      refine CallVC.pureF hpa rfl ?_
      (conv => whnf)
      refine splitB_intro (fun h => ?_) (fun h => ?_)
      · exact ⟨by rw [hq]; simp [idxF, h], rfl⟩
      · (conv => whnf)
        rw [IntWalk.i64_in _ (by omega)]
        refine ih (i + 1) hd' ?_
        rw [hq]
        simp only [idxF, h, Bool.false_eq_true, if_false]
        have := idxF_ge p r
        by_cases h3 : idxF p r = -1
        · rw [if_pos h3, if_pos rfl, if_pos h3]
        · rw [if_neg h3, if_neg (by omega), if_neg h3]; push_cast; omega
  refine key xs 0 rfl ?_
  by_cases h3 : idxF p xs = -1
  · rw [if_pos h3]; exact h3
  · rw [if_neg h3]; simp
theorem ContainsFuncI_spec (xs : List Ins) (hx : (xs.length : Int) ≤ 9223372036854775807) (p : Ins → Bool) (f : Nat) (hf : enters Tryd.prog f = true) (hp : ∀ a, a ∈ xs → pureF Tryd.prog f [.p (insP a)] (.p (.bool (p a)))) :
    pureF Tryd.prog 23 [.p (.list 3 (cP xs)), .p (.fn (.func f))] (.p (.bool (xs.any p))) := by
  refine pureF_of f23_ok fun H => ?_
  (conv => whnf)
  refine CallVC.pureF (IndexFuncI_spec xs hx p f hf hp) rfl ?_
  exact ⟨by rw [← idxF_any], rfl⟩

/-- The program's answer is the document's. -/
theorem codeCheck_spec (κ : Int) (T : List ByteArray) (C : List Ins) (S : Int) (hTl : T.length ≤ 1000000000) (hCl : C.length ≤ 1000000000) : pureF Tryd.prog 16 [.p (encPg κ T C S)] (.p (.int .i64 (errP κ T C S))) := by
  refine pureF_nil_of (ps := [encPg κ T C S]) f16_ok (.int _ _) ?_
  have hT := tP_len T
  have hC := cP_len C
  have hrS := right_code_spec S true
  have hany : pureF Tryd.prog 23 [.p (.list 3 (cP C)), .p (.fn (.func 24))] (.p (.bool (!C.all insOk))) := by
    have h1 := ContainsFuncI_spec C (by omega) (fun x => !insOk x) 24 (by kernel_rfl) fun a _ => codeWrong_spec a
    have h2 : (C.any fun x => !insOk x) = !C.all insOk := by rw [List.not_all_eq_any_not]
    rw [h2] at h1
    exact h1
  have hrf : rightB S true = fitsB S := by
    rw [rightB, fitsB, Bool.eq_iff_iff]
    simp
    omega
  rw [hrf] at hrS
  (conv => whnf)
  refine CallVC.inline f17_ok ?_
  (conv => whnf)
  by_cases hlim : 32768 < C.length ∨ 8192 < T.length
  · have e : errP κ T C S = 3 := by rw [errP, if_pos hlim]
    rw [e]
    refine splitB_dec (fun h => ?_) (fun h => ?_)
    · (conv => whnf)
      refine splitB_t (decide_eq_true h) ?_
      exact ⟨rfl, rfl⟩
    · (conv => whnf)
      refine splitB_t (decide_eq_true (by omega)) ?_
      exact ⟨rfl, rfl⟩
  · refine splitB_f (decide_eq_false (by omega)) ?_
    (conv => whnf)
    refine splitB_f (decide_eq_false (by omega)) ?_
    have bad : ((κ ≠ 1 ∧ κ ≠ 2) ∨ fitsB S = false ∨ C.all insOk = false) → errP κ T C S = 210 := fun h => by rw [errP, if_neg hlim, if_pos h]
    rcases (show κ = 1 ∨ κ = 2 ∨ (κ ≠ 1 ∧ κ ≠ 2) by omega) with hk | hk | ⟨n1, n2⟩
    · subst hk
      cases hS : fitsB S with
      | false =>
        rw [hS] at hrS
        repeat' ((conv => whnf); first | refine CallVC.pureF hrS rfl ?_ | refine splitB_t rfl ?_ | refine splitB_f rfl ?_)
        exact ⟨by rw [bad (.inr (.inl hS))], rfl⟩
      | true =>
        rw [hS] at hrS
        have hS' : 0 ≤ S ∧ S ≤ 2147483647 := by simpa [fitsB] using hS
        cases hall : C.all insOk with
        | false =>
          rw [hall] at hany
          repeat' ((conv => whnf); first | refine CallVC.pureF hrS rfl ?_ | refine CallVC.pureF hany rfl ?_ | refine splitB_t rfl ?_ | refine splitB_f rfl ?_)
          exact ⟨by rw [bad (.inr (.inr hall))], rfl⟩
        | true =>
          have e1 : errP 1 T C S = if 1048576 < hdSz T C S + codeSz C + txtSz T then 3 else 0 := by
            rw [errP, if_neg hlim, if_neg (by rw [hS, hall]; simp)]
          rw [hall] at hany
          repeat' ((conv => whnf); first | refine CallVC.pureF hrS rfl ?_ | refine CallVC.pureF hany rfl ?_ | refine splitB_t rfl ?_ | refine splitB_f rfl ?_)
          (conv => whnf)
          refine write_in 1 T C S (by omega) (by omega) hS' hall _ fun m g ys lo' hm hiff hle => ?_
          (conv => whnf)
          refine ⟨atK_in _ _ _ _ hm rfl, ?_⟩
          (conv => whnf)
          refine splitB_dec (fun h => ?_) (fun h => ?_)
          · exact ⟨by rw [e1, if_pos (hiff.1 h)], rfl⟩
          · exact ⟨by rw [e1, if_neg fun h2 => h (hiff.2 h2)], rfl⟩
    · subst hk
      cases hS : fitsB S with
      | false =>
        rw [hS] at hrS
        repeat' ((conv => whnf); first | refine CallVC.pureF hrS rfl ?_ | refine splitB_t rfl ?_ | refine splitB_f rfl ?_)
        exact ⟨by rw [bad (.inr (.inl hS))], rfl⟩
      | true =>
        rw [hS] at hrS
        have hS' : 0 ≤ S ∧ S ≤ 2147483647 := by simpa [fitsB] using hS
        cases hall : C.all insOk with
        | false =>
          rw [hall] at hany
          repeat' ((conv => whnf); first | refine CallVC.pureF hrS rfl ?_ | refine CallVC.pureF hany rfl ?_ | refine splitB_t rfl ?_ | refine splitB_f rfl ?_)
          exact ⟨by rw [bad (.inr (.inr hall))], rfl⟩
        | true =>
          have e1 : errP 2 T C S = if 1048576 < hdSz T C S + codeSz C + txtSz T then 3 else 0 := by
            rw [errP, if_neg hlim, if_neg (by rw [hS, hall]; simp)]
          rw [hall] at hany
          repeat' ((conv => whnf); first | refine CallVC.pureF hrS rfl ?_ | refine CallVC.pureF hany rfl ?_ | refine splitB_t rfl ?_ | refine splitB_f rfl ?_)
          (conv => whnf)
          refine write_in 2 T C S (by omega) (by omega) hS' hall _ fun m g ys lo' hm hiff hle => ?_
          (conv => whnf)
          refine ⟨atK_in _ _ _ _ hm rfl, ?_⟩
          (conv => whnf)
          refine splitB_dec (fun h => ?_) (fun h => ?_)
          · exact ⟨by rw [e1, if_pos (hiff.1 h)], rfl⟩
          · exact ⟨by rw [e1, if_neg fun h2 => h (hiff.2 h2)], rfl⟩
    · have e := bad (.inl ⟨n1, n2⟩)
      rw [e]
      repeat' ((conv => whnf); first | refine splitB_t (bne_iff_ne.2 n1) ?_ | refine splitB_t (bne_iff_ne.2 n2) ?_ | refine splitB_t rfl ?_ | refine splitB_f rfl ?_)
      all_goals (try (conv => whnf))
      all_goals exact ⟨rfl, rfl⟩

end Go.Proofs.YtgdimfogijfmiaaDoor.AD

namespace Go.Proofs.YtgdimfogijfmiaaDoor.AD
open Go.Proofs
set_option linter.unusedVariables false
set_option linter.unusedSimpArgs false
set_option maxRecDepth 100000

/-- The same so far, or beyond a limit for good. -/
def Big (b : Bs) : Prop := 32768 < b.C.length ∨ 8192 < b.T.length
def Sim (b : Bs) (w : Ws) : Prop := (w.o = false ∧ b.T = w.T ∧ b.C = w.C ∧ b.S = w.S ∧ b.h = w.h) ∨ (w.o = true ∧ Big b)

theorem putB_big (x : Ins) {b : Bs} (h : Big b) : Big (putB x b) := by
  rcases h with h | h
  · refine .inl ?_
    have e : (putB x b).C = b.C := by simp only [putB]; rw [if_neg (by omega)]
    rw [e]; exact h
  · exact .inr h
theorem namedB_big (o : Int) (s : ByteArray) {b : Bs} (h : Big b) : Big (namedB o s b) := by
  rw [namedB]
  split
  · exact putB_big _ h
  · refine putB_big _ ?_
    rcases h with h | h
    · exact .inl h
    · refine .inr ?_
      simp only [List.length_append]
      omega
theorem sim_put (x : Ins) {b : Bs} {w : Ws} (h : Sim b w) : Sim (putB x b) (putW x w) := by
  rcases h with ⟨h0, h1, h2, h3, h4⟩ | ⟨h0, h1⟩
  · by_cases hc : 32768 < w.C.length
    · refine .inr ⟨by rw [putW, if_pos (.inr hc)], putB_big _ (.inl (by rw [h2]; exact hc))⟩
    · refine .inl ?_
      rw [putW, if_neg (by rw [h0]; simp; omega)]
      refine ⟨h0, h1, ?_, ?_, ?_⟩
      · simp only [putB]; rw [if_pos (by rw [h2]; omega), h2]
      · simp only [putB, h3, h4]
      · simp only [putB, h4]
  · exact .inr ⟨by rw [putW, if_pos (.inl h0)], putB_big _ h1⟩
theorem sim_named (o : Int) (s : ByteArray) {b : Bs} {w : Ws} (h : Sim b w) : Sim (namedB o s b) (namedW o s w) := by
  rcases h with ⟨h0, h1, h2, h3, h4⟩ | ⟨h0, h1⟩
  · rw [namedB, namedW, if_neg (by rw [h0]; simp), h1]
    cases tix s w.T with
    | some i => exact sim_put _ (.inl ⟨h0, h1, h2, h3, h4⟩)
    | none =>
      simp only []
      by_cases ht : 8192 < w.T.length
      · rw [if_pos ht]
        refine .inr ⟨rfl, putB_big _ (.inr ?_)⟩
        simp only [List.length_append]
        omega
      · rw [if_neg ht]
        exact sim_put _ (.inl ⟨h0, by simp only [], h2, h3, h4⟩)
  · rw [namedW, if_pos h0]
    exact .inr ⟨h0, namedB_big _ _ h1⟩

theorem licB_big : (∀ e b, Big b → Big (licB e b)) ∧ ∀ l b, Big b → Big (licsB l b) := by
  have main : ∀ l : List Li, (∀ a, a ∈ l → ∀ b, Big b → Big (licB a b)) → ∀ b, Big b → Big (licsB l b) := by
    intro l
    induction l with
    | nil => intro _ b h; exact h
    | cons a r ih => intro h b hb; exact ih (fun c hc => h c (by simp [hc])) _ (h a (by simp) b hb)
  have one : ∀ e b, Big b → Big (licB e b) := by
    intro e
    induction e using Li.ind with
    | h o t k xs ih =>
      intro b hb
      have h1 := main xs ih b hb
      simp only [licB]
      (repeat' split) <;> first | exact namedB_big _ _ hb | exact putB_big _ h1
  exact ⟨one, fun l => main l fun a _ => one a⟩

theorem sim_lic (e : Li) : chkLi e = true → ∀ b w, Sim b w → Sim (licB e b) (licW e w) := by
  induction e using Li.ind with
  | h o t k xs ih =>
    intro hc b w h
    simp only [licB, licW]
    simp only [chkLi] at hc
    by_cases h1 : o = 1
    · rw [if_pos h1, if_pos h1]; exact sim_named _ _ h
    · rw [if_neg h1] at hc
      simp only [Bool.and_eq_true] at hc
      obtain ⟨⟨hc1, _⟩, hc2⟩ := hc
      rw [if_neg h1, if_neg h1]
      have main : ∀ l : List Li, (∀ a, a ∈ l → a ∈ xs) → chkLs l = true → ∀ b w, Sim b w → Sim (licsB l b) (licsW l w) := by
        intro l
        induction l with
        | nil => intro _ _ b w h; exact h
        | cons a r ihr =>
          intro hl hcl b w h
          simp only [chkLs, Bool.and_eq_true] at hcl
          simp only [licsB, licsW]
          by_cases hov : w.o = true
          · rw [if_pos hov]
            rcases h with ⟨h0, _⟩ | ⟨_, hb⟩
            · rw [h0] at hov; cases hov
            · exact .inr ⟨hov, licB_big.2 r _ (licB_big.1 a b hb)⟩
          · rw [if_neg hov]
            exact ihr (fun c hcc => hl c (by simp [hcc])) hcl.2 _ _ (ih a (hl a (by simp)) hcl.1 b w h)
      have h2 := main xs (fun _ h => h) hc2 b w h
      by_cases g2 : o = 2
      · rw [if_pos g2, if_pos g2]; exact sim_put _ h2
      · rw [if_neg g2, if_neg g2]
        by_cases g3 : o = 3
        · rw [if_pos g3, if_pos g3]; exact sim_put _ h2
        · rw [if_neg g3, if_neg g3]
          have g4 : o = 4 := by
            rw [if_neg (by omega)] at hc1
            by_cases g4 : o = 4
            · exact g4
            · rw [if_neg g4] at hc1; cases hc1
          rw [if_pos g4]
          exact sim_put _ h2

/-! ### programs compared -/
theorem eqCells_ins (x : Ins) : eqCells [.int .u8, .int .i64, .int .i64] [.int .u8 x.op, .int .i64 x.a, .int .i64 x.b] [.int .u8 x.op, .int .i64 x.a, .int .i64 x.b] = some true := by
  simp [eqCells]
theorem SameProgram_spec (κ : Int) (T : List ByteArray) (C : List Ins) (S : Int) (hTl : T.length ≤ 1000000000) (hCl : C.length ≤ 1000000000) : pureF Tryd.prog 19 [.p (encPg κ T C S), .p (encPg κ T C S)] (.p (.bool true)) := by
  have hT := tP_len T
  have hC := cP_len C
  refine pureF_of f19_ok fun H => ?_
  repeat' ((conv => whnf); first | refine splitB_t rfl ?_ | refine splitB_f rfl ?_ | refine splitB_f (by simp) ?_)
  (conv => whnf)
  intro R hR
  have key : ∀ (rest : List ByteArray) (i : Nat), T.drop i = rest → R [(2, .ref (.l 0) 0), (3, .ref (.l 1) 0), (5, .p (.int .i64 i))] H [.cells [.p (.int .u8 κ), .p (.list 1 (tP T)), .p (.list 3 (cP C)), .p (.int .i64 S)], .cells [.p (.int .u8 κ), .p (.list 1 (tP T)), .p (.list 3 (cP C)), .p (.int .i64 S)]] := by
    intro rest
    induction rest with
    | nil =>
      intro i hd
      have hl := drop_nil hd
      refine hR _ _ _ ?_
      (conv => whnf)
      refine splitB_f (decide_eq_false (by omega)) ?_
      (conv => whnf)
      intro R2 hR2
      have key2 : ∀ (rest : List Ins) (i : Nat), C.drop i = rest → R2 [(2, .ref (.l 0) 0), (3, .ref (.l 1) 0), (6, .p (.int .i64 i))] H [.cells [.p (.int .u8 κ), .p (.list 1 (tP T)), .p (.list 3 (cP C)), .p (.int .i64 S)], .cells [.p (.int .u8 κ), .p (.list 1 (tP T)), .p (.list 3 (cP C)), .p (.int .i64 S)]] := by
        intro rest
        induction rest with
        | nil =>
          intro i hd
          have hl := drop_nil hd
          refine hR2 _ _ _ ?_
          (conv => whnf)
          refine splitB_f (decide_eq_false (by omega)) ?_
          exact ⟨rfl, rfl⟩
        | cons x r ihr =>
          intro i hd
          obtain ⟨hg, hd', hi⟩ := drop_cons hd
          refine hR2 _ _ _ ?_
          (conv => whnf)
          refine splitB_t (decide_eq_true (by omega)) ?_
          (conv => whnf)
          refine ⟨rfl, insP x, ⟨by omega, cP_get hg⟩, ?_⟩
          (conv => whnf)
          refine ⟨rfl, insP x, ⟨by omega, cP_get hg⟩, ?_⟩
          (conv => whnf)
          refine ⟨true, eqCells_ins x, ?_⟩
          (conv => whnf)
          refine splitB_f rfl ?_
          (conv => whnf)
          rw [IntWalk.i64_in (i + 1) (by omega)]
          exact ihr (i + 1) hd'
      exact key2 C 0 rfl
    | cons t r ihr =>
      intro i hd
      obtain ⟨hg, hd', hi⟩ := drop_cons hd
      refine hR _ _ _ ?_
      (conv => whnf)
      refine splitB_t (decide_eq_true (by omega)) ?_
      (conv => whnf)
      refine ⟨rfl, .str t, ⟨by omega, tP_get hg⟩, ?_⟩
      (conv => whnf)
      refine ⟨rfl, .str t, ⟨by omega, tP_get hg⟩, ?_⟩
      (conv => whnf)
      refine splitB_f (by simp) ?_
      (conv => whnf)
      rw [IntWalk.i64_in (i + 1) (by omega)]
      exact ihr (i + 1) hd'
  exact key T 0 rfl

end Go.Proofs.YtgdimfogijfmiaaDoor.AD

namespace Go.Proofs.YtgdimfogijfmiaaDoor.AD
open Go.Proofs
set_option linter.unusedVariables false
set_option linter.unusedSimpArgs false
set_option maxRecDepth 100000

/-- A row of texts, each read. -/
theorem row1_in {W : World} {base : Nat} {a : Addr} {len cap : Nat} (hc : len ≤ cap) (hel : ∀ i, i < len → ∃ t : ByteArray, W.cells? base (a.add (i * 1)) 1 = some [.string t]) :
    ∃ ts : List ByteArray, ts.length = len ∧ VP (fun _ => False) W (.slice (some a) len cap) (.list 1 (ts.map PV.str)) := by
  have key : ∀ m, m ≤ len → ∃ ts : List ByteArray, ts.length = m ∧ ∀ (j : Nat) (t : ByteArray), ts[j]? = some t → W.cells? base (a.add (j * 1)) 1 = some [.string t] := by
    intro m
    induction m with
    | zero => intro _; exact ⟨[], rfl, fun j x h => by simp at h⟩
    | succ m ih =>
      intro hm
      obtain ⟨ts, hl, hx⟩ := ih (by omega)
      obtain ⟨t, h1⟩ := hel m (by omega)
      refine ⟨ts ++ [t], by simp [hl], fun j z hz => ?_⟩
      rcases Nat.lt_or_ge j ts.length with hj | hj
      · rw [List.getElem?_append_left hj] at hz; exact hx j z hz
      · rw [List.getElem?_append_right hj] at hz
        have hj2 : j = m := by have := get_lt hz; simp at this; omega
        subst hj2
        rw [hl, Nat.sub_self] at hz
        obtain rfl : t = z := by simpa using hz
        exact h1
  obtain ⟨ts, hl, hx⟩ := key len (Nat.le_refl _)
  refine ⟨ts, hl, ?_⟩
  rcases Nat.eq_zero_or_pos len with h | h
  · subst h
    obtain rfl : ts = [] := List.length_eq_zero_iff.1 hl
    exact .list0 1 _ _ fun e => by cases e
  · have g1 := hx 0 ts[0] (List.getElem?_eq_getElem (by omega))
    obtain ⟨g3, g4⟩ := cells?_out g1
    have g5 := g4 0 (.string ts[0]) rfl
    have hadd : (a.add (0 * 1)).add 0 = a := by simp [Addr.add]
    rw [hadd] at g5
    obtain ⟨g6, g7⟩ := cell_spot g5
    obtain ⟨b, off, sp⟩ := a
    simp only at g6 g7
    subst g6
    have get : ∀ (j : Nat) (e : PV), (ts.map PV.str)[j]? = some e → ∃ t, ts[j]? = some t ∧ e = .str t ∧ ts.getD j default = t := fun j e he => by
      rw [List.getElem?_map] at he
      obtain ⟨t, ht, rfl⟩ := Option.map_eq_some_iff.1 he
      exact ⟨t, ht, rfl, by rw [List.getD_eq_getElem?_getD, ht]; rfl⟩
    have hv := VP.list (M := fun _ => False) (w := W) b off cap 1 (ts.map PV.str) (fun j => .string (ts.getD j default)) (fun h => h) g7 (by simp [hl]; exact hc)
      (fun j e he => rfl)
      (fun j e he => by
        obtain ⟨t, ht, _, hd⟩ := get j e he
        intro i u hu
        have hi : i = 0 := by
          have := (Array.getElem?_eq_some_iff.1 hu).1
          simp [Value.cells] at this
          omega
        subst hi
        have hu' : Value.string (ts.getD j default) = u := by simpa [Value.cells] using hu
        subst hu'
        refine ⟨rfl, ?_⟩
        have := (cells?_out (hx j t ht)).2 0 (.string t) rfl
        rw [hd, ← this]
        simp only [add_none, Nat.add_assoc, Nat.add_zero])
      (fun j e he => by
        obtain ⟨t, ht, rfl, hd⟩ := get j e he
        show VP _ W (.string (ts.getD j default)) (.str t)
        rw [hd]; exact .str t)
    rw [List.length_map, hl] at hv
    exact hv

def insCells (x : Ins) : List PV := [.int .u8 x.op, .int .i64 x.a, .int .i64 x.b]
/-- The types that programs have. -/
structure PgTypes (P : Program) (tP tK tT tC tN tS tI : TypeId) : Prop where
  fs : ∃ f0 f1 f2 f3 : Field, P.underlying tP = some (.struct #[f0, f1, f2, f3]) ∧ (f0.type = tK ∧ f0.offset = 0) ∧ (f1.type = tT ∧ f1.offset = 1) ∧ (f2.type = tC ∧ f2.offset = 2) ∧ (f3.type = tN ∧ f3.offset = 3)
  gs : ∃ f0 f1 f2 : Field, P.underlying tI = some (.struct #[f0, f1, f2]) ∧ (f0.type = tK ∧ f0.offset = 0) ∧ (f1.type = tN ∧ f1.offset = 1) ∧ (f2.type = tN ∧ f2.offset = 2)
  k : P.underlying tK = some (.int .u8)
  t : P.underlying tT = some (.slice tS)
  c : P.underlying tC = some (.slice tI)
  n : P.underlying tN = some (.int .i64)
  s : P.underlying tS = some .string
  sizes : P.cellsOf tP = 4 ∧ P.cellsOf tK = 1 ∧ P.cellsOf tT = 1 ∧ P.cellsOf tC = 1 ∧ P.cellsOf tN = 1 ∧ P.cellsOf tS = 1 ∧ P.cellsOf tI = 3

theorem open_ins {P : Program} {tP tK tT tC tN tS tI : TypeId} (hT : PgTypes P tP tK tT tC tN tS tI) {H : Type} {encH : TypeId × Value → H} {W : World} {base : Nat} {spare : Nat → Bool} {held : Bool}
    (fuel : Nat) (cs : List Value) (y : DataW H) (p : List MemPlace) (h : DataW.trod encH P W base spare held fuel tI cs = some (y, p)) : ∃ x : Ins, CellsIn W cs (insCells x) := by
  obtain ⟨f0, f1, f2, hE, ⟨a1, a2⟩, ⟨b1, b2⟩, c1, c2⟩ := hT.gs
  obtain ⟨s1, s2, s3, s4, s5, s6, s7⟩ := hT.sizes
  obtain ⟨xs, n, rfl, _, hl, hxl, hf⟩ := DataW.trod_struct hE h
  rw [s7] at hl
  have hxl : xs.length = 3 := hxl
  match cs, hl with
  | [u0, u1, u2], _ =>
  have g0 := hf 0 f0 rfl
  have g1 := hf 1 f1 rfl
  have g2 := hf 2 f2 rfl
  rw [a1, a2, s2, List.getElem?_eq_getElem (by omega)] at g0
  rw [b1, b2, s5, List.getElem?_eq_getElem (by omega)] at g1
  rw [c1, c2, s5, List.getElem?_eq_getElem (by omega)] at g2
  obtain ⟨o, ho, _, _⟩ := DataW.trod_int hT.k g0
  obtain ⟨m, hm, _, _⟩ := DataW.trod_int hT.n g1
  obtain ⟨k, hk, _, _⟩ := DataW.trod_int hT.n g2
  obtain rfl : u0 = .int .u8 o := by simpa using ho
  obtain rfl : u1 = .int .i64 m := by simpa using hm
  obtain rfl : u2 = .int .i64 k := by simpa using hk
  refine ⟨⟨o, m, k⟩, rfl, fun j x q hx hq => ?_⟩
  match j, hx, hq with
  | 0, hx, hq => cases hx; cases hq; exact ⟨.int _ _, rfl⟩
  | 1, hx, hq => cases hx; cases hq; exact ⟨.int _ _, rfl⟩
  | 2, hx, hq => cases hx; cases hq; exact ⟨.int _ _, rfl⟩

theorem open_pg {P : Program} {tP' tK tT tC tN tS tI : TypeId} (hT : PgTypes P tP' tK tT tC tN tS tI) {H : Type} {encH : TypeId × Value → H} {W : World} {base : Nat} {spare : Nat → Bool} {held : Bool}
    (fuel : Nat) (cs : List Value) (y : DataW H) (p : List MemPlace) (h : DataW.trod encH P W base spare held fuel tP' cs = some (y, p)) :
    ∃ (κ : Int) (T : List ByteArray) (C : List Ins) (S : Int), CellsIn W cs [.int .u8 κ, .list 1 (tP T), .list 3 (cP C), .int .i64 S] := by
  obtain ⟨f0, f1, f2, f3, hE, ⟨a1, a2⟩, ⟨b1, b2⟩, ⟨c1, c2⟩, d1, d2⟩ := hT.fs
  obtain ⟨s1, s2, s3, s4, s5, s6, s7⟩ := hT.sizes
  obtain ⟨xs, n, rfl, _, hl, hxl, hf⟩ := DataW.trod_struct hE h
  rw [s1] at hl
  have hxl : xs.length = 4 := hxl
  match cs, hl with
  | [u0, u1, u2, u3], _ =>
  have g0 := hf 0 f0 rfl
  have g1 := hf 1 f1 rfl
  have g2 := hf 2 f2 rfl
  have g3 := hf 3 f3 rfl
  rw [a1, a2, s2, List.getElem?_eq_getElem (by omega)] at g0
  rw [b1, b2, s3, List.getElem?_eq_getElem (by omega)] at g1
  rw [c1, c2, s4, List.getElem?_eq_getElem (by omega)] at g2
  rw [d1, d2, s5, List.getElem?_eq_getElem (by omega)] at g3
  obtain ⟨κ, hκ, _, _⟩ := DataW.trod_int hT.k g0
  obtain ⟨S, hS, _, _⟩ := DataW.trod_int hT.n g3
  obtain rfl : u0 = .int .u8 κ := by simpa using hκ
  obtain rfl : u3 = .int .i64 S := by simpa using hS
  have texts : ∃ T : List ByteArray, VP (fun _ => False) W u1 (.list 1 (tP T)) ∧ u1.oneCell' = true := by
    rcases DataW.trod_slice hT.t g1 with ⟨hs, _⟩ | ⟨a, len, cap, elems, rest, m, rfl, hs, _, _, hlc, hcm, hel, hr, _⟩
    · obtain rfl : u1 = .slice none 0 0 := by simpa using hs
      exact ⟨[], .list0 1 _ _ fun _ => rfl, rfl⟩
    · obtain rfl : u1 = .slice (some a) len cap := by simpa using hs
      rw [s6] at hr
      obtain ⟨ts, _, hv⟩ := row1_in (W := W) (base := base) (a := a) (len := len) (cap := cap) hlc fun i hi => by
        have h1 := hr i hi
        rw [List.getElem?_eq_getElem (by omega)] at h1
        obtain ⟨c, hc1, hc2⟩ := Option.bind_eq_some_iff.1 h1
        obtain ⟨t, ht, _, _⟩ := DataW.trod_string hT.s hc2
        exact ⟨t, by rw [← ht]; exact hc1⟩
      exact ⟨ts, hv, rfl⟩
  have code : ∃ C : List Ins, VP (fun _ => False) W u2 (.list 3 (cP C)) ∧ u2.oneCell' = true := by
    rcases DataW.trod_slice hT.c g2 with ⟨hs, _⟩ | ⟨a, len, cap, elems, rest, m, rfl, hs, _, _, hlc, hcm, hel, hr, _⟩
    · obtain rfl : u2 = .slice none 0 0 := by simpa using hs
      exact ⟨[], .list0 3 _ _ fun _ => rfl, rfl⟩
    · obtain rfl : u2 = .slice (some a) len cap := by simpa using hs
      rw [s7] at hr
      obtain ⟨ys, _, _, hv⟩ := row_in (W := W) (base := base) (a := a) (len := len) (cap := cap) (sz := 3) insCells (fun _ => True) (fun x => rfl) (by omega) hlc fun i hi => by
        have h1 := hr i hi
        rw [List.getElem?_eq_getElem (by omega)] at h1
        obtain ⟨c, hc1, hc2⟩ := Option.bind_eq_some_iff.1 h1
        obtain ⟨x, hx⟩ := open_ins hT m c _ _ hc2
        exact ⟨c, x, hc1, hx, trivial⟩
      exact ⟨ys, hv, rfl⟩
  obtain ⟨T, ht1, ht2⟩ := texts
  obtain ⟨C, hc1, hc2⟩ := code
  refine ⟨κ, T, C, S, rfl, fun j x q hx hq => ?_⟩
  match j, hx, hq with
  | 0, hx, hq => cases hx; cases hq; exact ⟨.int _ _, rfl⟩
  | 1, hx, hq => cases hx; cases hq; exact ⟨ht1, ht2⟩
  | 2, hx, hq => cases hx; cases hq; exact ⟨hc1, hc2⟩
  | 3, hx, hq => cases hx; cases hq; exact ⟨.int _ _, rfl⟩
end Go.Proofs.YtgdimfogijfmiaaDoor.AD

namespace Go.Proofs.YtgdimfogijfmiaaDoor.AD
open Go.Proofs Go.ChangeShapes Go.WideShapes Go.ChangeAt Go.RowKit

theorem okWide_agg {P : Program} {W : World} {r : Reach} {base : Nat} {t : TypeId} {v : Value} {fs : Array Field} (ht : P.underlying t = some (.struct fs)) (h : Value.okWide P W r base t v) : ∃ cs, v = .agg cs := by
  unfold Value.okWide at h
  rw [ht] at h
  obtain ⟨cs, rfl, _⟩ := h
  exact ⟨cs, rfl⟩

theorem stays_none (W : World) : Stays (fun _ => False) W (blocks []) W := ⟨Nat.le_refl _, fun b _ _ => ⟨fun ⟨i, m, h, _⟩ => by simp at h, rfl⟩⟩

theorem inv_none (W : World) : Inv [] W [] [] := ⟨rfl, fun i j m m' b h => by simp at h, fun i o h => by simp at h, fun k o h => by simp at h⟩

theorem below_of {W W' : World} {μ' : List MI} (h : Le [] W μ' W') : Below W.heap.size W W' :=
  ⟨h.os, h.tape, h.output, h.stays.1, fun k hk => (h.stays.2 k hk fun ⟨i, m, h, _⟩ => by simp at h).2⟩

/-- A call that answers true, seen from outside. -/
theorem true_calls {P : Program} {f : Nat} {ps : List PV} (h : pureF P f (ps.map AV.p) (.p (.bool true))) {W : World} {xs : Array Value} (hl : xs.size = ps.length) (hx : ∀ (j : Nat) (x : Value) (p : PV), xs[j]? = some x → ps[j]? = some p → VP (fun _ => False) W x p) :
    Calls P f xs W fun e W' => e = .returned (.bool true) ∧ Below W.heap.size W W' := by
  refine (h [] [] W xs (inv_none W) ⟨by simpa using hl, fun j x a hj ha => ?_⟩).mono fun e W' hw => ?_
  · rw [List.getElem?_map] at ha
    obtain ⟨p, hp, rfl⟩ := Option.map_eq_some_iff.1 ha
    exact .p _ _ ((hx j x p hj hp).mono (stays_none W))
  · obtain ⟨v, r, H', μ', rfl, ⟨rfl, rfl⟩, _, hv, hle⟩ := hw
    rw [hv.bool_inv]
    exact ⟨rfl, below_of hle⟩

theorem pgTypes : PgTypes Tryd.prog 30 5 24 26 3 9 23 := ⟨⟨_, _, _, _, Tryd.underlying30, ⟨rfl, rfl⟩, ⟨rfl, rfl⟩, ⟨rfl, rfl⟩, rfl, rfl⟩, ⟨_, _, _, Tryd.underlying23, ⟨rfl, rfl⟩, ⟨rfl, rfl⟩, rfl, rfl⟩, by kernel_rfl, by kernel_rfl, by kernel_rfl, by kernel_rfl, by kernel_rfl, by kernel_rfl, by kernel_rfl, by kernel_rfl, by kernel_rfl, by kernel_rfl, by kernel_rfl, by kernel_rfl⟩

end Go.Proofs.YtgdimfogijfmiaaDoor.AD

namespace Go.Proofs.YtgdimfogijfmiaaDoor.AD
open Go.Proofs
set_option linter.unusedVariables false
set_option linter.unusedSimpArgs false
set_option linter.unusedSectionVars false
set_option maxRecDepth 100000

def iP (l : List Int) : List PV := l.map (PV.int .i64)
theorem iP_len (l : List Int) : (iP l).length = l.length := by simp [iP]
theorem iP_get {l : List Int} {i : Nat} {x : Int} (h : l[i]? = some x) : (iP l)[i]? = some (.int .i64 x) := by rw [iP, List.getElem?_map, h]; rfl
theorem iP_append (a b : List Int) : iP (a ++ b) = iP a ++ iP b := by simp [iP]
theorem iP_take (a : List Int) (n : Nat) : iP (a.take n) = (iP a).take n := by simp [iP, List.map_take]

theorem EqualI_spec (a b : List Int) (ha : (a.length : Int) ≤ 9223372036854775807) (hb : (b.length : Int) ≤ 9223372036854775807) : pureF Tryd.prog 44 [.p (.list 1 (iP a)), .p (.list 1 (iP b))] (.p (.bool (decide (a = b)))) := by
  refine pureF_of f44_ok fun H => ?_
  have la := iP_len a
  have lb := iP_len b
  (conv => whnf)
  by_cases hl : a.length = b.length
  · refine splitB_f (by rw [la, lb, hl]; simp) ?_
    (conv => whnf)
    intro R hR
    have key : ∀ (ra rb : List Int) (i : Nat), a.drop i = ra → b.drop i = rb → decide (a = b) = decide (ra = rb) → R [(0, .p (.list 1 (iP a))), (1, .p (.list 1 (iP b))), (12, .p (.int .i64 (iP a).length)), (13, .p (.int .i64 i))] H [] := by
      intro ra
      induction ra with
      | nil =>
        intro rb i h1 h2 hq
        have hd := drop_nil h1
        have hb' : rb = [] := by rw [← h2]; exact List.drop_eq_nil_iff.2 (by omega)
        subst hb'
        refine hR _ _ _ ?_
        (conv => whnf)
        refine splitB_f (decide_eq_false (by omega)) ?_
        exact ⟨by rw [hq]; rfl, rfl⟩
      | cons x r ih =>
        intro rb i h1 h2 hq
        obtain ⟨hg, hd', hi⟩ := drop_cons h1
        cases rb with
        | nil => have := drop_nil h2; omega
        | cons y rb =>
          obtain ⟨hg2, hd2, hi2⟩ := drop_cons h2
          refine hR _ _ _ ?_
          (conv => whnf)
          refine splitB_t (decide_eq_true (by omega)) ?_
          (conv => whnf)
          refine ⟨rfl, .int .i64 x, ⟨by omega, iP_get hg⟩, ?_⟩
          (conv => whnf)
          refine ⟨rfl, .int .i64 y, ⟨by omega, iP_get hg2⟩, ?_⟩
          (conv => whnf)
          refine splitB_ne (fun h => ?_) (fun h => ?_)
          · exact ⟨by rw [hq]; simp [h], rfl⟩
          · subst h
            (conv => whnf)
            rw [IntWalk.i64_in _ (by omega)]
            exact ih rb (i + 1) hd' hd2 (by rw [hq]; simp)
    exact key a b 0 rfl rfl rfl
  · refine splitB_t ?_ ?_
    · rw [la, lb]; simp; omega
    · exact ⟨by rw [decide_eq_false (fun e => hl (by rw [e]))], rfl⟩

def idxI (p : Int → Bool) : List Int → Int
  | [] => -1
  | a :: r => if p a then 0 else if idxI p r = -1 then -1 else idxI p r + 1
theorem idxI_ge (p : Int → Bool) : ∀ l, -1 ≤ idxI p l
  | [] => by simp [idxI]
  | a :: r => by have := idxI_ge p r; simp only [idxI]; (repeat' split) <;> omega
theorem idxI_any (p : Int → Bool) : ∀ l, l.any p = decide (0 ≤ idxI p l)
  | [] => rfl
  | a :: r => by
    have h := idxI_any p r
    have := idxI_ge p r
    rw [List.any_cons, h]
    cases hp : p a with
    | true => simp [idxI, hp]
    | false =>
      simp only [idxI, hp, Bool.false_eq_true, if_false, Bool.false_or]
      by_cases h3 : idxI p r = -1
      · rw [if_pos h3, h3]
      · rw [if_neg h3, decide_eq_true (by omega : 0 ≤ idxI p r), decide_eq_true (by omega)]

theorem IndexFuncN_spec (xs : List Int) (hx : (xs.length : Int) ≤ 9223372036854775807) (p : Int → Bool) (f : Nat) (hf : enters Tryd.prog f = true) (hp : ∀ a, a ∈ xs → pureF Tryd.prog f [.p (.int .i64 a)] (.p (.bool (p a)))) :
    pureF Tryd.prog 76 [.p (.list 1 (iP xs)), .p (.fn (.func f))] (.p (.int .i64 (idxI p xs))) := by
  refine pureF_of f76_ok fun H => ?_
  (conv => whnf)
  intro R hR
  have he := iP_len xs
  have key : ∀ (rest : List Int) (i : Nat), xs.drop i = rest → idxI p xs = (if idxI p rest = -1 then -1 else idxI p rest + i) → R [(0, .p (.list 1 (iP xs))), (1, .p (.fn (.func f))), (7, .p (.int .i64 (iP xs).length)), (8, .p (.int .i64 i))] H [] := by
    intro rest
    induction rest with
    | nil =>
      intro i hd hq
      have hl := drop_nil hd
      refine hR _ _ _ ?_
      (conv => whnf)
      refine splitB_f (decide_eq_false (by omega)) ?_
      exact ⟨by rw [hq]; rfl, rfl⟩
    | cons a r ih =>
      intro i hd hq
      obtain ⟨hg, hd', hi⟩ := drop_cons hd
      have hpa := hp a (List.mem_of_getElem? hg)
      refine hR _ _ _ ?_
      (conv => whnf)
      refine splitB_t (decide_eq_true (by omega)) ?_
      (conv => whnf)
      refine ⟨rfl, .int .i64 a, ⟨by omega, iP_get hg⟩, ?_⟩
      (conv => whnf)
      refine ⟨hf, ?_⟩
      refine CallVC.pureF hpa rfl ?_
      (conv => whnf)
      refine splitB_intro (fun h => ?_) (fun h => ?_)
      · exact ⟨by rw [hq]; simp [idxI, h], rfl⟩
      · (conv => whnf)
        rw [IntWalk.i64_in _ (by omega)]
        refine ih (i + 1) hd' ?_
        rw [hq]
        simp only [idxI, h, Bool.false_eq_true, if_false]
        have := idxI_ge p r
        by_cases h3 : idxI p r = -1
        · rw [if_pos h3, if_pos rfl, if_pos h3]
        · rw [if_neg h3, if_neg (by omega), if_neg h3]; push_cast; omega
  refine key xs 0 rfl ?_
  by_cases h3 : idxI p xs = -1
  · rw [if_pos h3]; exact h3
  · rw [if_neg h3]; simp
theorem ContainsFuncN_spec (xs : List Int) (hx : (xs.length : Int) ≤ 9223372036854775807) (p : Int → Bool) (f : Nat) (hf : enters Tryd.prog f = true) (hp : ∀ a, a ∈ xs → pureF Tryd.prog f [.p (.int .i64 a)] (.p (.bool (p a)))) :
    pureF Tryd.prog 59 [.p (.list 1 (iP xs)), .p (.fn (.func f))] (.p (.bool (xs.any p))) := by
  refine pureF_of f59_ok fun H => ?_
  (conv => whnf)
  refine CallVC.pureF (IndexFuncN_spec xs hx p f hf hp) rfl ?_
  exact ⟨by rw [← idxI_any], rfl⟩

/-! ### lists of the call's own -/

def OwnL (rest : List Ob) (a : AV) (l : List Int) : Prop :=
  (a = .p .nils ∧ l = []) ∨ (a = .p .emp ∧ l = []) ∨ ∃ k g es, a = .view (.l (k + 2)) g 1 l.length ∧ rest[k]? = some (.buf g 1 es) ∧ l.length ≤ es.length ∧ es.take l.length = iP l
def ixV : AV → Option Nat
  | .view (.l k) _ _ _ => some k
  | _ => none

theorem OwnL.more {rest : List Ob} {a : AV} {l : List Int} (h : OwnL rest a l) (X : List Ob) : OwnL (rest ++ X) a l := by
  rcases h with h | h | ⟨k, g, es, h1, h2, h3, h4⟩
  · exact .inl h
  · exact .inr (.inl h)
  · exact .inr (.inr ⟨k, g, es, h1, by rw [List.getElem?_append_left (get_lt h2)]; exact h2, h3, h4⟩)
theorem OwnL.set {rest : List Ob} {a : AV} {l : List Int} (h : OwnL rest a l) (k : Nat) (o : Ob) (hk : ixV a ≠ some (k + 2)) : OwnL (rest.set k o) a l := by
  rcases h with h | h | ⟨k', g, es, h1, h2, h3, h4⟩
  · exact .inl h
  · exact .inr (.inl h)
  · refine .inr (.inr ⟨k', g, es, h1, ?_, h3, h4⟩)
    have : k ≠ k' := by
      intro e
      subst e
      exact hk (by rw [h1]; rfl)
    rw [List.getElem?_set_ne this]; exact h2
theorem OwnL.ix {rest : List Ob} {a : AV} {l : List Int} (h : OwnL rest a l) {k : Nat} (hk : ixV a = some k) : 2 ≤ k ∧ k < rest.length + 2 := by
  rcases h with ⟨rfl, _⟩ | ⟨rfl, _⟩ | ⟨k', g, es, rfl, h2, _⟩
  · cases hk
  · cases hk
  · cases hk; have := get_lt h2; omega
theorem OwnL.take {rest : List Ob} {a : AV} {l : List Int} (h : OwnL rest a l) (n : Nat) (hk : a.lowL (n + 2) = true) : OwnL (rest.take n) a l := by
  rcases h with h | h | ⟨k', g, es, h1, h2, h3, h4⟩
  · exact .inl h
  · exact .inr (.inl h)
  · refine .inr (.inr ⟨k', g, es, h1, ?_, h3, h4⟩)
    subst h1
    have : Nat.blt (k' + 2) (n + 2) = true := by simpa [AV.lowL, Rf.lowL] using hk
    have := blt_lt this
    rw [List.getElem?_take, if_pos (by omega)]; exact h2
theorem OwnL.lend {rest : List Ob} {a : AV} {l : List Int} (h : OwnL rest a l) (ba : List Ob) (o0 o1 : Ob) : ∃ p, Lend ba (o0 :: o1 :: rest) a p ∧ PV.le p (.list 1 (iP l)) := by
  rcases h with ⟨rfl, rfl⟩ | ⟨rfl, rfl⟩ | ⟨k, g, es, rfl, h2, h3, h4⟩
  · exact ⟨_, .p _, PV.le.nils 1⟩
  · exact ⟨_, .p _, PV.le.emp 1⟩
  · have := Lend.view (ba := ba) (lo := o0 :: o1 :: rest) (.l (k + 2)) g 1 l.length es h2 h3
    rw [h4] at this
    exact ⟨_, this, .refl _⟩
theorem OwnL.empt {rest : List Ob} {a : AV} (h : OwnL rest a []) (ba : List Ob) (o0 o1 : Ob) : Empt ba (o0 :: o1 :: rest) a := by
  rcases h with ⟨rfl, _⟩ | ⟨rfl, _⟩ | ⟨k, g, es, rfl, h2, h3, h4⟩
  · exact trivial
  · exact trivial
  · exact atK_in (k + 2) (o0 :: o1 :: rest) _ (.buf g 1 es) h2 rfl

/-- Lists, each with a place of its own. -/
structure Fam (rest : List Ob) (vs : List AV) (ls : List (List Int)) : Prop where
  len : vs.length = ls.length
  own : ∀ (j : Nat) (a : AV) (l : List Int), vs[j]? = some a → ls[j]? = some l → OwnL rest a l
  apart : ∀ (i j : Nat) (a b : AV) (k : Nat), vs[i]? = some a → vs[j]? = some b → ixV a = some k → ixV b = some k → i = j

theorem Fam.put {rest rest' : List Ob} {vs : List AV} {ls : List (List Int)} (h : Fam rest vs ls) (i : Nat) {a a' : AV} {l' : List Int} (hi : vs[i]? = some a) (hn : OwnL rest' a' l') (hx : ∀ k, ixV a' = some k → ixV a = some k ∨ rest.length + 2 ≤ k)
    (hk : ∀ b l, OwnL rest b l → (∀ k, ixV b = some k → ixV a ≠ some k) → OwnL rest' b l) : Fam rest' (vs.set i a') (ls.set i l') := by
  have hil := get_lt hi
  refine ⟨by simp [h.len], fun j b l hb hl => ?_, fun p q b c k hb hc h1 h2 => ?_⟩
  · rw [List.getElem?_set] at hb hl
    by_cases e : i = j
    · subst e
      rw [if_pos rfl, if_pos hil] at hb
      rw [if_pos rfl, if_pos (by rw [← h.len]; exact hil)] at hl
      cases hb; cases hl
      exact hn
    · rw [if_neg e] at hb hl
      exact hk b l (h.own j b l hb hl) fun k hk ha => e (h.apart i j a b k hi hb ha hk)
  · rw [List.getElem?_set] at hb hc
    have low : ∀ {j : Nat} {b : AV}, vs[j]? = some b → ixV b = some k → k < rest.length + 2 := fun {j b} hj hb => by
      have hj2 : j < ls.length := by rw [← h.len]; exact get_lt hj
      have := h.own j b ls[j] hj (List.getElem?_eq_getElem hj2)
      exact (this.ix hb).2
    by_cases e : i = p <;> by_cases e2 : i = q
    · omega
    · rw [if_pos e, if_pos hil] at hb
      rw [if_neg e2] at hc
      cases hb
      rcases hx k h1 with h3 | h3
      · exact absurd (h.apart i q a c k hi hc h3 h2) e2
      · have := low hc h2; omega
    · rw [if_neg e] at hb
      rw [if_pos e2, if_pos hil] at hc
      cases hc
      rcases hx k h2 with h3 | h3
      · exact absurd (h.apart i p a b k hi hb h3 h1) e
      · have := low hb h1; omega
    · rw [if_neg e] at hb
      rw [if_neg e2] at hc
      exact h.apart p q b c k hb hc h1 h2

theorem Fam.snoc {rest rest' : List Ob} {vs : List AV} {ls : List (List Int)} (h : Fam rest vs ls) {a' : AV} {l' : List Int} (hn : OwnL rest' a' l') (hx : ∀ k, ixV a' = some k → rest.length + 2 ≤ k)
    (hk : ∀ b l, OwnL rest b l → OwnL rest' b l) : Fam rest' (vs ++ [a']) (ls ++ [l']) := by
  have low : ∀ {j : Nat} {b : AV} {k : Nat}, vs[j]? = some b → ixV b = some k → k < rest.length + 2 := fun {j b k} hj hb => by
    have hj2 : j < ls.length := by rw [← h.len]; exact get_lt hj
    have := h.own j b ls[j] hj (List.getElem?_eq_getElem hj2)
    exact (this.ix hb).2
  have part : ∀ {j : Nat} {b : AV}, (vs ++ [a'])[j]? = some b → (j < vs.length ∧ vs[j]? = some b) ∨ (j = vs.length ∧ b = a') := fun {j b} hj => by
    rcases Nat.lt_or_ge j vs.length with hl | hl
    · rw [List.getElem?_append_left hl] at hj; exact .inl ⟨hl, hj⟩
    · rw [List.getElem?_append_right hl] at hj
      have := get_lt hj
      simp at this
      have : j - vs.length = 0 := by omega
      rw [this] at hj
      simp at hj
      exact .inr ⟨by omega, hj.symm⟩
  refine ⟨by simp [h.len], fun j b l hb hl => ?_, fun p q b c k hb hc h1 h2 => ?_⟩
  · rcases part hb with ⟨g1, g2⟩ | ⟨g1, rfl⟩
    · rw [List.getElem?_append_left (by rw [← h.len]; exact g1)] at hl
      exact hk b l (h.own j b l g2 hl)
    · rw [g1, h.len] at hl
      simp at hl
      subst hl
      exact hn
  · rcases part hb with ⟨g1, g2⟩ | ⟨g1, rfl⟩ <;> rcases part hc with ⟨g3, g4⟩ | ⟨g3, rfl⟩
    · exact h.apart p q b c k g2 g4 h1 h2
    · have := low g2 h1; have := hx k h2; omega
    · have := low g4 h2; have := hx k h1; omega
    · omega

theorem Fam.pick {rest : List Ob} {vs vs' : List AV} {ls ls' : List (List Int)} (h : Fam rest vs ls) (f : Nat → Nat) (hf : ∀ i j, i < vs'.length → j < vs'.length → f i = f j → i = j) (hl : vs'.length = ls'.length) (h1 : ∀ j, j < vs'.length → vs'[j]? = vs[f j]?) (h2 : ∀ j, j < vs'.length → ls'[j]? = ls[f j]?) : Fam rest vs' ls' :=
  ⟨hl, fun j a l ha hl' => h.own (f j) a l (by rw [← h1 j (get_lt ha)]; exact ha) (by rw [← h2 j (get_lt ha)]; exact hl'), fun i j a b k ha hb h3 h4 =>
    hf i j (get_lt ha) (get_lt hb) (h.apart (f i) (f j) a b k (by rw [← h1 i (get_lt ha)]; exact ha) (by rw [← h1 j (get_lt hb)]; exact hb) h3 h4)⟩
theorem Fam.more {rest : List Ob} {vs : List AV} {ls : List (List Int)} (h : Fam rest vs ls) (X : List Ob) : Fam (rest ++ X) vs ls :=
  ⟨h.len, fun j a l ha hl => (h.own j a l ha hl).more X, h.apart⟩
theorem Fam.take {rest : List Ob} {vs : List AV} {ls : List (List Int)} (h : Fam rest vs ls) (n : Nat) (hk : ∀ a, a ∈ vs → a.lowL (n + 2) = true) : Fam (rest.take n) vs ls :=
  ⟨h.len, fun j a l ha hl => (h.own j a l ha hl).take n (hk a (List.mem_of_getElem? ha)), h.apart⟩
end Go.Proofs.YtgdimfogijfmiaaDoor.AD

namespace Go.Proofs.YtgdimfogijfmiaaDoor.AD
open Go.Proofs
set_option linter.unusedVariables false
set_option linter.unusedSimpArgs false
set_option maxRecDepth 100000

def decSet (i : Nat) : Bool := decide (48 ≤ i) && decide (i ≤ 57)
def decBits : List PV := (List.range 256).map fun i => .bool (decSet i)
def decOb : Ob := .cells (decBits.map AV.p)

theorem decBits_get {i : Nat} (h : i < 256) : decBits[i]? = some (.bool (decSet i)) := by
  simp [decBits, h]

set_option maxHeartbeats 4000000 in
theorem makeSet_spec : pureF Tryd.prog 93 [.p (.str ⟨#[48, 49, 50, 51, 52, 53, 54, 55, 56, 57]⟩)] (.p (.tup [.agg decBits, .bool true])) := by
  refine pureF_of f93_ok fun H => ?_
  (conv => whnf)
  intro R hR
  iterate 10
    refine hR _ _ _ ?_
    (conv => whnf)
    refine splitB_t rfl ?_
    (conv => whnf)
    refine ⟨_, ⟨by decide, rfl⟩, ?_⟩
    (conv => whnf)
    refine splitB_f rfl ?_
    (conv => whnf)
    refine ⟨by decide, ?_⟩
    (conv => whnf)
  refine hR _ _ _ ?_
  (conv => whnf)
  refine splitB_f rfl ?_
  exact ⟨rfl, rfl⟩

theorem containsG (B : List PV) (hl : B.length = 256) (hB : ∀ i, i < 256 → B[i]? = some (.bool (decSet i))) (c : UInt8) : Meth Tryd.prog 99 [.ref (.b 0) 0, .p (.int .u8 c.toNat)] [.cells (B.map AV.p)] (.bool (decSet c.toNat)) [.cells (B.map AV.p)] := by
  refine Meth.of f99_ok fun rest => ?_
  have hc : c.toNat < 256 := c.toNat_lt
  (conv => whnf)
  refine ⟨⟨by omega, by omega⟩, ?_⟩
  (conv => whnf)
  rw [show 0 + Int.toNat (c.toNat : Int) * 1 = c.toNat by omega]
  have hd : B.drop c.toNat = .bool (decSet c.toNat) :: B.drop (c.toNat + 1) := by
    have hl' : c.toNat < B.length := by omega
    rw [List.drop_eq_getElem_cons hl']
    congr 1
    have := hB _ hc
    rw [List.getElem?_eq_getElem hl'] at this
    exact Option.some.inj this
  refine dropK_in _ _ _ (by simp; omega) ?_
  rw [← List.map_drop, hd]
  exact ⟨rfl, rfl⟩
theorem contains_spec (c : UInt8) : Meth Tryd.prog 99 [.ref (.b 0) 0, .p (.int .u8 c.toNat)] [decOb] (.bool (decSet c.toNat)) [decOb] :=
  containsG decBits (by rw [decBits, List.length_map, List.length_range]) (fun _ h => decBits_get h) c

def trimRL (l : List UInt8) : List UInt8 := (l.reverse.dropWhile fun c => decSet c.toNat).reverse
def trimLL (l : List UInt8) : List UInt8 := l.dropWhile fun c => decSet c.toNat
theorem ext_take (s : ByteArray) (n : Nat) : (s.extract 0 n).data.toList = s.data.toList.take n := by simp [ByteArray.data_extract]
theorem ext_drop (s : ByteArray) (n : Nat) : (s.extract n s.size).data.toList = s.data.toList.drop n := by
  have h : s.data.toList.length ≤ s.size := by rw [ba_size]; exact Nat.le_refl _
  simp only [ByteArray.data_extract, Array.toList_extract, List.extract]
  rw [List.take_of_length_le]
  rw [List.length_drop]; omega

theorem trimRight_spec (s : ByteArray) (hs : (s.size : Int) ≤ 9223372036854775807) : Meth Tryd.prog 95 [.p (.str s), .ref (.b 0) 0] [decOb] (.str ⟨(trimRL s.data.toList).toArray⟩) [decOb] := by
  refine Meth.of f95_ok fun rest => ?_
  (conv => whnf)
  intro R hR
  have key : ∀ (n : Nat) (t : ByteArray), t.size = n → t.size ≤ s.size → trimRL t.data.toList = trimRL s.data.toList → R [(0, .p (.str t)), (1, .ref (.b 0) 0)] ([decOb] ++ rest) [] := by
    intro n
    induction n with
    | zero =>
      intro t ht hle hq
      refine hR _ _ _ ?_
      (conv => whnf)
      refine splitB_f (decide_eq_false (by omega)) ?_
      refine ⟨?_, rfl⟩
      rw [← hq]
      have : t.data.toList = [] := List.length_eq_zero_iff.1 (by rw [← ba_size]; exact ht)
      congr 2
      apply ByteArray.ext
      apply Array.ext'
      simp [this, trimRL]
    | succ n ih =>
      intro t ht hle hq
      have hl : t.data.toList.length = n + 1 := by rw [← ba_size]; exact ht
      obtain ⟨l0, c, hlc⟩ : ∃ l0 c, t.data.toList = l0 ++ [c] := by
        rcases List.eq_nil_or_concat t.data.toList with h | ⟨l0, c, h⟩
        · rw [h] at hl; simp at hl
        · exact ⟨l0, c, by simpa using h⟩
      have hl0 : l0.length = n := by rw [hlc] at hl; simpa using hl
      have hct := contains_spec c
      refine hR _ _ _ ?_
      (conv => whnf)
      refine splitB_t (decide_eq_true (by omega)) ?_
      (conv => whnf)
      rw [IntWalk.i64_in _ (by omega)]
      refine ⟨c, ⟨by omega, ?_⟩, ?_⟩
      · rw [hlc, List.getElem?_append_right (by omega)]
        rw [show Int.toNat ((t.size : Int) - 1) - l0.length = 0 by omega]; rfl
      (conv => whnf)
      refine CallVC.same hct rfl rfl rfl ?_
      (conv => whnf)
      have hrev : trimRL t.data.toList = if decSet c.toNat then trimRL l0 else l0 ++ [c] := by
        rw [hlc, trimRL, List.reverse_append]
        simp only [List.reverse_cons, List.reverse_nil, List.nil_append, List.singleton_append, List.dropWhile_cons]
        split
        · rfl
        · simp
      refine splitB_intro (fun h => ?_) (fun h => ?_)
      · have hd : decSet c.toNat = false := by simpa using h
        rw [hd, if_neg (by simp)] at hrev
        refine ⟨?_, rfl⟩
        rw [← hq, hrev, ← hlc]
      · have hd : decSet c.toNat = true := by simpa using h
        rw [hd, if_pos rfl] at hrev
        (conv => whnf)
        rw [IntWalk.i64_in _ (by omega)]
        refine ⟨by omega, ?_⟩
        (conv => whnf)
        have e1 : (t.extract 0 (Int.toNat ((t.size : Int) - 1))).data.toList = l0 := by
          rw [ext_take, hlc, show Int.toNat ((t.size : Int) - 1) = l0.length by omega]; simp
        refine ih _ ?_ ?_ ?_
        · rw [ba_size, e1]; exact hl0
        · rw [ba_size, e1]; omega
        · rw [e1, ← hrev]; exact hq
  exact key s.size s rfl (Nat.le_refl _) rfl

theorem trimLeft_spec (s : ByteArray) (hs : (s.size : Int) ≤ 9223372036854775807) : Meth Tryd.prog 94 [.p (.str s), .ref (.b 0) 0] [decOb] (.str ⟨(trimLL s.data.toList).toArray⟩) [decOb] := by
  refine Meth.of f94_ok fun rest => ?_
  (conv => whnf)
  intro R hR
  have key : ∀ (n : Nat) (t : ByteArray), t.size = n → t.size ≤ s.size → trimLL t.data.toList = trimLL s.data.toList → R [(0, .p (.str t)), (1, .ref (.b 0) 0)] ([decOb] ++ rest) [] := by
    intro n
    induction n with
    | zero =>
      intro t ht hle hq
      refine hR _ _ _ ?_
      (conv => whnf)
      refine splitB_f (decide_eq_false (by omega)) ?_
      refine ⟨?_, rfl⟩
      rw [← hq]
      have : t.data.toList = [] := List.length_eq_zero_iff.1 (by rw [← ba_size]; exact ht)
      congr 2
      apply ByteArray.ext
      apply Array.ext'
      simp [this, trimLL]
    | succ n ih =>
      intro t ht hle hq
      have hl : t.data.toList.length = n + 1 := by rw [← ba_size]; exact ht
      obtain ⟨c, l0, hlc⟩ : ∃ c l0, t.data.toList = c :: l0 := by
        cases h : t.data.toList with
        | nil => rw [h] at hl; simp at hl
        | cons c l0 => exact ⟨c, l0, rfl⟩
      have hl0 : l0.length = n := by rw [hlc] at hl; simpa using hl
      have hct := contains_spec c
      refine hR _ _ _ ?_
      (conv => whnf)
      refine splitB_t (decide_eq_true (by omega)) ?_
      (conv => whnf)
      refine ⟨c, ⟨by omega, ?_⟩, ?_⟩
      · rw [hlc]; rfl
      (conv => whnf)
      refine CallVC.same hct rfl rfl rfl ?_
      (conv => whnf)
      have hrev : trimLL t.data.toList = if decSet c.toNat then trimLL l0 else c :: l0 := by
        rw [hlc, trimLL, List.dropWhile_cons]
        split <;> rfl
      refine splitB_intro (fun h => ?_) (fun h => ?_)
      · have hd : decSet c.toNat = false := by simpa using h
        rw [hd, if_neg (by simp)] at hrev
        refine ⟨?_, rfl⟩
        rw [← hq, hrev, ← hlc]
      · have hd : decSet c.toNat = true := by simpa using h
        rw [hd, if_pos rfl] at hrev
        (conv => whnf)
        refine ⟨by omega, ?_⟩
        (conv => whnf)
        have e1 : (t.extract (Int.toNat 1) t.size).data.toList = l0 := by
          rw [ext_drop, hlc]; rfl
        refine ih _ ?_ ?_ ?_
        · rw [ba_size, e1]; exact hl0
        · rw [ba_size, e1]; omega
        · rw [e1, ← hrev]; exact hq
  exact key s.size s rfl (Nat.le_refl _) rfl

theorem trim_nil : ∀ l : List UInt8, (trimLL (trimRL l) = []) ↔ l.all (fun c => decSet c.toNat) = true := by
  intro l
  have hL : ∀ l : List UInt8, trimLL l = [] ↔ l.all (fun c => decSet c.toNat) = true := by
    intro l
    induction l with
    | nil => simp [trimLL]
    | cons c r ih =>
      simp only [trimLL, List.dropWhile_cons, List.all_cons, Bool.and_eq_true] at ih ⊢
      split
      · rename_i h; rw [ih]; simp [h]
      · rename_i h; simp [h]
  rw [hL]
  constructor
  · intro h
    rw [List.all_eq_true] at h ⊢
    have h2 : ∀ (m : List UInt8), (∀ x, x ∈ m.dropWhile (fun c => decSet c.toNat) → decSet x.toNat = true) → ∀ x, x ∈ m → decSet x.toNat = true := by
      intro m
      induction m with
      | nil => intro _ x hx; cases hx
      | cons c r ih =>
        intro hm x hx
        rw [List.dropWhile_cons] at hm
        split at hm
        · rename_i hc
          cases hx with
          | head => exact hc
          | tail _ hx => exact ih hm x hx
        · exact hm x hx
    intro x hx
    refine h2 l.reverse (fun y hy => h y ?_) x (List.mem_reverse.2 hx)
    rw [trimRL]; exact List.mem_reverse.2 hy
  · intro h
    rw [List.all_eq_true] at h ⊢
    intro x hx
    rw [trimRL, List.mem_reverse] at hx
    exact h x (List.mem_reverse.1 ((List.dropWhile_sublist _).subset hx))

theorem decOb_noRef : [decOb].all Ob.noRef = true := by decide +kernel

theorem vdigits_spec (s : ByteArray) (hs : (s.size : Int) ≤ 9223372036854775807) : pureF Tryd.prog 78 [.p (.str s)] (.p (.bool (digitsB s))) := by
  refine pureF_nil_of (ps := [.str s]) f78_ok (.bool _) ?_
  have hmk := makeSet_spec
  have hl1 := trimRight_spec s hs
  have hl2 := trimLeft_spec ⟨(trimRL s.data.toList).toArray⟩ (by
    have : (trimRL s.data.toList).length ≤ s.data.toList.length := by
      rw [trimRL, List.length_reverse]
      have := (List.dropWhile_sublist (fun c : UInt8 => decSet c.toNat) (l := s.data.toList.reverse)).length_le
      simpa using this
    rw [ba_size] at hs ⊢
    show (((trimRL s.data.toList).toArray.toList.length : Nat) : Int) ≤ _
    rw [List.toList_toArray]; omega)
  have hdig : digitsB s = (neS s && decide (trimLL (trimRL s.data.toList) = [])) := by
    have h1 : (s.data.toList.all fun c => digitB c.toNat) = s.data.toList.all fun c => decSet c.toNat := by
      congr 1
      funext c
      rw [Bool.eq_iff_iff]
      simp [digitB, decSet]
      omega
    rw [digitsB, h1, Bool.and_comm]
    congr 1
    have := trim_nil s.data.toList
    cases hb : s.data.toList.all fun c => decSet c.toNat with
    | true => exact (decide_eq_true (this.2 hb)).symm
    | false => exact (decide_eq_false fun e => by rw [this.1 e] at hb; cases hb).symm
  (conv => whnf)
  refine splitB_intro (fun h => ?_) (fun h => ?_)
  · (conv => whnf)
    have hne : neS s = true := h
    refine CallVC.inline f89_ok ?_
    (conv => whnf)
    refine splitB_f (by simpa [neS] using hne) ?_
    (conv => whnf)
    refine splitB_f (by rw [ba_toList, ba_toList]; rfl) ?_
    (conv => whnf)
    refine splitB_f (by decide) ?_
    (conv => whnf)
    refine splitB_f (by decide) ?_
    (conv => whnf)
    refine CallVC.pureF hmk rfl ?_
    (conv => whnf)
    refine splitB_t rfl ?_
    (conv => whnf)
    refine CallVC.methF [] [] hl1 rfl rfl rfl decOb_noRef decOb_noRef rfl ?_
    (conv => whnf)
    refine CallVC.methF [] [] hl2 rfl rfl rfl decOb_noRef decOb_noRef rfl ?_
    (conv => whnf)
    refine ⟨?_, rfl⟩
    rw [hdig, hne, Bool.true_and, ba_toList, ba_toList]
    congr 2
    rw [Bool.eq_iff_iff, decide_eq_true_eq, beq_iff_eq]
  · have hne : neS s = false := h
    refine ⟨by rw [hdig, hne]; rfl, rfl⟩
end Go.Proofs.YtgdimfogijfmiaaDoor.AD

namespace Go.Proofs.YtgdimfogijfmiaaDoor.AD
open Go.Proofs
set_option linter.unusedVariables false
set_option linter.unusedSimpArgs false
set_option maxRecDepth 100000
variable {ba : List Ob}

/-- What the checker knows: the stack, what is pending, the heights, the highest. -/
structure KS where
  st : List Int
  pd : List (Int × List Int)
  hs : List Int
  hi : Int

def pkey (pd : List (Int × List Int)) : List PV := pd.map fun q => .int .i64 q.1

/-- Where the checker stands: the program's parts are κ, T, C, S. -/
structure CS (κ T C S : PV) (s : KS) (lo : List Ob) : Prop where
  ex : ∃ vs stv hv rest, lo = [.mapA (pkey s.pd) vs, .cells [.p κ, .p T, .p C, .p S, stv, .mapr (.l 0), hv, .p (.int .i64 s.hi)]] ++ rest ∧ Fam rest (stv :: hv :: vs) (s.st :: s.hs :: s.pd.map Prod.snd)

/-- A method of the checker, read in place. -/
def MC (κ T C S : PV) (f : Nat) (args : List AV) (r : PV) (s s' : KS) : Prop :=
  ∀ {ba : List Ob} (lo : List Ob) (K : AV → List Ob → List Ob → Prop), CS κ T C S s lo → (∀ lo', CS κ T C S s' lo' → K (.p r) ba lo') → CallVC Tryd.prog f (.ref (.l 1) 0 :: args) ba lo K

def topS (st : List Int) (n : Nat) : Int := if n ≤ st.length then st.getD (st.length - n) 0 else 0
def KS.swap (s : KS) (n : Nat) (put : List Int) : KS := { s with st := s.st.take (s.st.length - n) ++ put }

theorem aliveK {rest : List Ob} {k g : Nat} {es : List PV} (o0 o1 : Ob) (h : rest[k]? = some (.buf g 1 es)) : aliveV (.l (k + 2)) g ba ([o0, o1] ++ rest) :=
  atK_in (k + 2) (o0 :: o1 :: rest) _ (.buf g 1 es) h rfl

theorem OwnL.lenV {rest : List Ob} {a : AV} {l : List Int} (h : OwnL rest a l) : (a = .p .nils ∧ l = []) ∨ (a = .p .emp ∧ l = []) ∨ ∃ k g, a = .view (.l (k + 2)) g 1 l.length := by
  rcases h with h | h | ⟨k, g, es, h1, _⟩
  · exact .inl h
  · exact .inr (.inl h)
  · exact .inr (.inr ⟨k, g, h1⟩)

theorem setAt2 {rest : List Ob} {k : Nat} {o0 o1 v : Ob} {kont : List Ob → Prop} (h : k < rest.length) (hk : kont ([o0, o1] ++ rest.set k v)) : setAtK (k + 2) ([o0, o1] ++ rest) v kont :=
  setAtK_in (k + 2) _ _ _ (by simp; omega) hk

theorem ownGet {es : List PV} {l : List Int} (h4 : es.take l.length = iP l) {i : Nat} (hi : i < l.length) : es[i]? = some (.int .i64 (l.getD i 0)) := by
  have h : (es.take l.length)[i]? = es[i]? := by rw [List.getElem?_take, if_pos hi]
  rw [← h, h4]
  refine iP_get ?_
  rw [List.getD_eq_getElem?_getD, List.getElem?_eq_getElem hi]; rfl

theorem CS.stack {κ T C S : PV} {s : KS} {vs : List AV} {stv hv a' : AV} {rest rest' : List Ob} {l' : List Int} (hfam : Fam rest (stv :: hv :: vs) (s.st :: s.hs :: s.pd.map Prod.snd)) (hn : OwnL rest' a' l') (hx : ∀ k, ixV a' = some k → ixV stv = some k ∨ rest.length + 2 ≤ k)
    (hk : ∀ b l, OwnL rest b l → (∀ k, ixV b = some k → ixV stv ≠ some k) → OwnL rest' b l) :
    CS κ T C S { s with st := l' } ([.mapA (pkey s.pd) vs, .cells [.p κ, .p T, .p C, .p S, a', .mapr (.l 0), hv, .p (.int .i64 s.hi)]] ++ rest') :=
  ⟨vs, a', hv, rest', rfl, hfam.put 0 rfl hn hx hk⟩

theorem topN_spec (κ T C S : PV) (s : KS) (n : Nat) (h1 : 1 ≤ n) (hn : n ≤ 2) (hst : (s.st.length : Int) ≤ 1073741824) : MC κ T C S 61 [.p (.int .i64 n)] (.int .i64 (topS s.st n)) s s := by
  intro ba lo K hcs hK
  obtain ⟨vs, stv, hv, rest, hlo, hfam⟩ := hcs.ex
  have hown := hfam.own 0 stv s.st rfl rfl
  refine CallVC.inline f61_ok ?_
  rw [hlo] at hcs ⊢
  rcases hown with ⟨rfl, he⟩ | ⟨rfl, he⟩ | ⟨k, g, es, rfl, h2, h3, h4⟩
  · (conv => whnf)
    refine splitB_t (decide_eq_true (by omega)) ?_
    (conv => whnf)
    exact Eq.mp (congrArg (fun v => K (.p (.int .i64 v)) ba _) (by rw [topS, he, if_neg (by simp; omega)])) (hK _ hcs)
  · (conv => whnf)
    refine splitB_t (decide_eq_true (by omega)) ?_
    (conv => whnf)
    exact Eq.mp (congrArg (fun v => K (.p (.int .i64 v)) ba _) (by rw [topS, he, if_neg (by simp; omega)])) (hK _ hcs)
  · (conv => whnf)
    refine ⟨aliveK _ _ h2, ?_⟩
    (conv => whnf)
    refine splitB_dec (fun h => ?_) (fun h => ?_)
    · (conv => whnf)
      exact Eq.mp (congrArg (fun v => K (.p (.int .i64 v)) ba _) (by rw [topS, if_neg (by omega)])) (hK _ hcs)
    · (conv => whnf)
      refine ⟨aliveK _ _ h2, ?_⟩
      (conv => whnf)
      rw [IntWalk.i64_in _ (by omega)]
      refine ⟨⟨rfl, by omega, by omega⟩, aliveK _ _ h2, ?_⟩
      (conv => whnf)
      refine atK_in k _ _ _ h2 ?_
      have hx := ownGet h4 (i := s.st.length - n) (by omega)
      have ht : topS s.st n = s.st.getD (s.st.length - n) 0 := by rw [topS, if_pos (by omega)]
      refine ⟨⟨rfl, rfl⟩, .int .i64 (topS s.st n), ?_, ?_⟩
      · rw [ht, ← hx]; congr 1; omega
      · (conv => whnf)
        exact hK _ hcs

theorem swapV_spec (κ T C S : PV) (s : KS) (n : Nat) (put : List Int) (pv : PV) (hp : pv = .nils ∧ put = [] ∨ pv = .list 1 (iP put)) (hn : n ≤ s.st.length) (hst : ((s.st.length + put.length : Nat) : Int) ≤ 1073741824)
    (vs : List AV) (hv : AV) (rest : List Ob) (k g : Nat) (es : List PV) (hfam : Fam rest (.view (.l (k + 2)) g 1 s.st.length :: hv :: vs) (s.st :: s.hs :: s.pd.map Prod.snd)) (h2 : rest[k]? = some (.buf g 1 es)) (h3 : s.st.length ≤ es.length) (h4 : es.take s.st.length = iP s.st) :
    ∃ lo', CS κ T C S (s.swap n put) lo' ∧ ∀ K : AV → List Ob → List Ob → Prop, K (.p (.bool true)) ba lo' → CallVC Tryd.prog 63 [.ref (.l 1) 0, .p (.int .i64 n), .p pv] ba ([.mapA (pkey s.pd) vs, .cells [.p κ, .p T, .p C, .p S, .view (.l (k + 2)) g 1 s.st.length, .mapr (.l 0), hv, .p (.int .i64 s.hi)]] ++ rest) K := by
  have htl : (s.st.take (s.st.length - n)).length = s.st.length - n := by simp
  have hkl := get_lt h2
  refine ⟨[.mapA (pkey s.pd) vs, .cells [.p κ, .p T, .p C, .p S, .view (.l (k + 2)) (g + 1) 1 (s.st.take (s.st.length - n) ++ put).length, .mapr (.l 0), hv, .p (.int .i64 s.hi)]] ++ rest.set k (.buf (g + 1) 1 (iP (s.st.take (s.st.length - n) ++ put))), ?_, fun K hK => ?_⟩
  · exact CS.stack (l' := s.st.take (s.st.length - n) ++ put) hfam (.inr (.inr ⟨k, g + 1, _, rfl, by rw [List.getElem?_set_self hkl], by rw [iP_len]; exact Nat.le_refl _, by rw [← iP_len]; simp⟩)) (fun k' hk => by cases hk; exact .inl rfl) fun b l hb hne => hb.set _ _ fun e => hne _ e rfl
  have fin : ∀ (m : Nat) (zs : List PV), m = s.st.length - n + put.length → zs = iP (s.st.take (s.st.length - n) ++ put) → K (.p (.bool true)) ba ([.mapA (pkey s.pd) vs, .cells [.p κ, .p T, .p C, .p S, .view (.l (k + 2)) (g + 1) 1 m, .mapr (.l 0), hv, .p (.int .i64 s.hi)]] ++ rest.set k (.buf (g + 1) 1 zs)) := fun m zs hm hz => by
    subst hm; subst hz
    rw [List.length_append, htl] at hK
    exact hK
  refine CallVC.inline f63_ok ?_
  have htk : es.take (s.st.length - n) = iP (s.st.take (s.st.length - n)) := by
    rw [iP_take, ← h4, List.take_take, Nat.min_eq_left (by omega)]
  have hto : Int.toNat ((s.st.length : Int) - n) = s.st.length - n := by omega
  have hle : Int.toNat ((s.st.length : Int) - n) ≤ es.length := by omega
  have hroom : room (Int.toNat ((s.st.length : Int) - n) + put.length) 8 := by unfold room; omega
  have hroom' : room (Int.toNat ((s.st.length : Int) - n) + (iP put).length) 8 := by rw [iP_len]; exact hroom
  rcases hp with ⟨rfl, rfl⟩ | rfl
  · (conv => whnf)
    refine ⟨aliveK _ _ h2, ?_⟩
    (conv => whnf)
    rw [IntWalk.i64_in _ (by omega)]
    refine ⟨aliveK _ _ h2, ⟨by omega, by omega⟩, ?_⟩
    (conv => whnf)
    refine atK_in k _ _ _ h2 ?_
    refine ⟨⟨rfl, rfl, rfl, hle⟩, hroom, _, rfl, ?_⟩
    refine setAt2 hkl ?_
    (conv => whnf)
    refine fin _ _ (by rw [hto]; rfl) ?_
    rw [hto, htk]; simp
  · (conv => whnf)
    refine ⟨aliveK _ _ h2, ?_⟩
    (conv => whnf)
    rw [IntWalk.i64_in _ (by omega)]
    refine ⟨aliveK _ _ h2, ⟨by omega, by omega⟩, ?_⟩
    (conv => whnf)
    refine ⟨rfl, ?_⟩
    refine atK_in k _ _ _ h2 ?_
    refine ⟨⟨rfl, rfl, rfl, hle⟩, hroom', _, rfl, ?_⟩
    refine setAt2 hkl ?_
    (conv => whnf)
    refine fin _ _ (by rw [hto, iP_len]) ?_
    rw [hto, htk, iP_append]

theorem swap_def (κ T C S : PV) (s : KS) (n : Nat) (put : List Int) (pv : PV) (hp : pv = .nils ∧ put = [] ∨ pv = .list 1 (iP put)) (hn : n ≤ s.st.length) (hst : ((s.st.length + put.length : Nat) : Int) ≤ 1073741824) (lo : List Ob) (hcs : CS κ T C S s lo) :
    ∃ lo', CS κ T C S (s.swap n put) lo' ∧ ∀ K : AV → List Ob → List Ob → Prop, K (.p (.bool true)) ba lo' → CallVC Tryd.prog 63 [.ref (.l 1) 0, .p (.int .i64 n), .p pv] ba lo K := by
  obtain ⟨vs, stv, hv, rest, hlo, hfam⟩ := hcs.ex
  have hown := hfam.own 0 stv s.st rfl rfl
  rw [hlo] at hcs ⊢
  have newb : ∀ l', OwnL (rest ++ [.buf 0 1 (iP l')]) (.view (.l (rest.length + 2)) 0 1 l'.length) l' := fun l' =>
    .inr (.inr ⟨rest.length, 0, iP l', rfl, by simp, by rw [iP_len]; exact Nat.le_refl _, by rw [← iP_len]; simp⟩)
  have newc : ∀ l', CS κ T C S { s with st := l' } ([.mapA (pkey s.pd) vs, .cells [.p κ, .p T, .p C, .p S, .view (.l (rest.length + 2)) 0 1 l'.length, .mapr (.l 0), hv, .p (.int .i64 s.hi)]] ++ (rest ++ [.buf 0 1 (iP l')])) := fun l' =>
    CS.stack hfam (newb l') (fun k hk => by cases hk; exact .inr (Nat.le_refl _)) fun b l hb _ => hb.more _
  rcases hown with ⟨rfl, he⟩ | ⟨rfl, he⟩ | ⟨k, g, es, rfl, h2, h3, h4⟩
  · have hn0 : n = 0 := by rw [he] at hn; simpa using hn
    subst hn0
    have hsw : s.swap 0 put = { s with st := put } := by rw [KS.swap, he]; rfl
    rw [hsw]
    refine ⟨_, newc put, fun K hK => CallVC.inline f63_ok ?_⟩
    rcases hp with ⟨rfl, rfl⟩ | rfl
    · (conv => whnf)
      refine ⟨rfl, ?_⟩
      (conv => whnf)
      refine ⟨by simp [room], ?_⟩
      rw [pushK_eq]
      (conv => whnf)
      exact hK
    · have fin : ∀ m, m = put.length → K (.p (.bool true)) ba ([.mapA (pkey s.pd) vs, .cells [.p κ, .p T, .p C, .p S, .view (.l (rest.length + 2)) 0 1 m, .mapr (.l 0), hv, .p (.int .i64 s.hi)]] ++ (rest ++ [.buf 0 1 (iP put)])) := fun m hm => by subst hm; exact hK
      (conv => whnf)
      refine ⟨rfl, ?_⟩
      (conv => whnf)
      refine ⟨rfl, by simp [room, iP_len]; omega, ?_⟩
      rw [pushK_eq]
      (conv => whnf)
      exact fin _ (iP_len put)
  · have hn0 : n = 0 := by rw [he] at hn; simpa using hn
    subst hn0
    have hsw : s.swap 0 put = { s with st := put } := by rw [KS.swap, he]; rfl
    rw [hsw]
    have keep : put = [] → CS κ T C S { s with st := put } ([.mapA (pkey s.pd) vs, .cells [.p κ, .p T, .p C, .p S, .p .emp, .mapr (.l 0), hv, .p (.int .i64 s.hi)]] ++ rest) := fun e => by
      subst e
      exact CS.stack hfam (.inr (.inl ⟨rfl, rfl⟩)) (fun k hk => by cases hk) fun b l hb _ => hb
    rcases hp with ⟨rfl, rfl⟩ | rfl
    · refine ⟨_, keep rfl, fun K hK => CallVC.inline f63_ok ?_⟩
      (conv => whnf)
      refine ⟨rfl, ?_⟩
      (conv => whnf)
      exact hK
    · cases put with
      | nil =>
        refine ⟨_, keep rfl, fun K hK => CallVC.inline f63_ok ?_⟩
        (conv => whnf)
        refine ⟨rfl, ?_⟩
        (conv => whnf)
        refine ⟨rfl, ?_⟩
        (conv => whnf)
        exact hK
      | cons x r =>
        refine ⟨_, newc (x :: r), fun K hK => CallVC.inline f63_ok ?_⟩
        have fin : ∀ m, m = (x :: r).length → K (.p (.bool true)) ba ([.mapA (pkey s.pd) vs, .cells [.p κ, .p T, .p C, .p S, .view (.l (rest.length + 2)) 0 1 m, .mapr (.l 0), hv, .p (.int .i64 s.hi)]] ++ (rest ++ [.buf 0 1 (iP (x :: r))])) := fun m hm => by subst hm; exact hK
        (conv => whnf)
        refine ⟨rfl, ?_⟩
        (conv => whnf)
        refine ⟨rfl, by simp [room] at hst ⊢; omega, ?_⟩
        rw [pushK_eq]
        (conv => whnf)
        exact fin _ (by simp)
  · exact swapV_spec κ T C S s n put pv hp hn hst vs hv rest k g es hfam h2 h3 h4
theorem swap_spec (κ T C S : PV) (s : KS) (n : Nat) (put : List Int) (pv : PV) (hp : pv = .nils ∧ put = [] ∨ pv = .list 1 (iP put)) (hn : n ≤ s.st.length) (hst : ((s.st.length + put.length : Nat) : Int) ≤ 1073741824) : MC κ T C S 63 [.p (.int .i64 n), .p pv] (.bool true) s (s.swap n put) := by
  intro ba lo K hcs hK
  obtain ⟨lo', h1, h2⟩ := swap_def κ T C S s n put pv hp hn hst lo hcs
  exact h2 K (hK lo' h1)
end Go.Proofs.YtgdimfogijfmiaaDoor.AD

namespace Go.Proofs.YtgdimfogijfmiaaDoor.AD
open Go.Proofs
set_option linter.unusedVariables false
set_option linter.unusedSimpArgs false
set_option maxRecDepth 100000
variable {ba : List Ob}

/-- The program that the checker goes through. -/
structure Pg where
  κ : Int
  T : List ByteArray
  C : List Ins
  S : Int
structure Pg.fits (p : Pg) : Prop where
  tl : p.T.length ≤ 8192
  cl : p.C.length ≤ 32768
  ts : ∀ t, t ∈ p.T → t.size ≤ 1000000000
def CP (p : Pg) := CS (.int .u8 p.κ) (.list 1 (tP p.T)) (.list 3 (cP p.C)) (.int .i64 p.S)
def MP (p : Pg) := MC (.int .u8 p.κ) (.list 1 (tP p.T)) (.list 3 (cP p.C)) (.int .i64 p.S)

/-- A method that only reads may be told by what it answers. -/
theorem MP.keep {p : Pg} {f : Nat} {args : List AV} {r : PV} {s : KS} (h : ∀ (ba : List Ob) (vs : List AV) (stv hv : AV) (rest : List Ob) (K : AV → List Ob → List Ob → Prop), Fam rest (stv :: hv :: vs) (s.st :: s.hs :: s.pd.map Prod.snd) →
    K (.p r) ba ([.mapA (pkey s.pd) vs, .cells [.p (.int .u8 p.κ), .p (.list 1 (tP p.T)), .p (.list 3 (cP p.C)), .p (.int .i64 p.S), stv, .mapr (.l 0), hv, .p (.int .i64 s.hi)]] ++ rest) →
    CallVC Tryd.prog f (.ref (.l 1) 0 :: args) ba ([.mapA (pkey s.pd) vs, .cells [.p (.int .u8 p.κ), .p (.list 1 (tP p.T)), .p (.list 3 (cP p.C)), .p (.int .i64 p.S), stv, .mapr (.l 0), hv, .p (.int .i64 s.hi)]] ++ rest) K) : MP p f args r s s := by
  intro ba lo K hcs hK
  obtain ⟨vs, stv, hv, rest, hlo, hfam⟩ := hcs.ex
  have hk := hK _ hcs
  rw [hlo] at hk ⊢
  exact h ba vs stv hv rest K hfam hk

/-- digitsB, decB as the kernel can reckon them. -/
def digitsC (s : ByteArray) : Bool := (s.data.toList.all fun c => digitB c.toNat) && !s.data.toList.isEmpty
def decC (s : ByteArray) : Bool := (cutAt s 46).2.2 && (digitsC (cutAt s 46).1 && digitsC (cutAt s 46).2.1)
theorem digitsC_eq (s : ByteArray) : digitsB s = digitsC s := by
  rw [digitsB, digitsC, neS, ba_toList, ba_toList]
  congr 1
  cases s.data.toList <;> rfl
theorem decC_eq (s : ByteArray) : decB s = decC s := by
  rw [decB, decC, digitsC_eq, digitsC_eq]
def vtextOk (o : Int) (t : ByteArray) : Bool := if o = 4 then nameB t else if o = 2 then digitsC t else if o = 3 then decC t else true
def vnamedB (T : List ByteArray) (x : Ins) : Bool := match T[x.a.toNat]? with
  | none => false
  | some t => vtextOk x.op t

theorem named23_spec (p : Pg) (hp : p.fits) (x : Ins) (hx : 0 ≤ x.a) (s : KS) : MP p 62 [.p (insP x)] (.bool (vnamedB p.T x)) s s := by
  refine MP.keep fun ba vs stv hv rest K hfam hK => ?_
  refine CallVC.inline f62_ok ?_
  have hl := tP_len p.T
  (conv => whnf)
  refine splitB_intro (fun h => ?_) (fun h => ?_)
  · have h : ((tP p.T).length : Int) ≤ x.a := by simpa using h
    (conv => whnf)
    have hq : vnamedB p.T x = false := by rw [vnamedB, List.getElem?_eq_none (by omega)]
    rw [hq] at hK
    exact hK
  · have h : x.a < ((tP p.T).length : Int) := by simpa using h
    obtain ⟨t, ht⟩ : ∃ t, p.T[x.a.toNat]? = some t := ⟨_, List.getElem?_eq_getElem (by omega)⟩
    have hts := hp.ts t (List.mem_of_getElem? ht)
    have htz : (t.size : Int) ≤ 9223372036854775807 := by omega
    have hq : vnamedB p.T x = vtextOk x.op t := by rw [vnamedB, ht]
    rw [hq] at hK
    (conv => whnf)
    refine ⟨rfl, .str t, ⟨hx, tP_get ht⟩, ?_⟩
    (conv => whnf)
    refine splitB_eq (fun h4 => ?_) (fun h4 => ?_)
    · rw [vtextOk, if_pos h4] at hK
      (conv => whnf)
      refine CallVC.pureF (Name_spec t htz) rfl ?_
      exact hK
    · (conv => whnf)
      refine splitB_eq (fun h5 => ?_) (fun h5 => ?_)
      · rw [vtextOk, if_neg h4, if_pos h5, ← digitsC_eq] at hK
        (conv => whnf)
        refine CallVC.pureF (vdigits_spec t htz) rfl ?_
        exact hK
      · (conv => whnf)
        refine splitB_eq (fun h6 => ?_) (fun h6 => ?_)
        · rw [vtextOk, if_neg h4, if_neg h5, if_pos h6, ← decC_eq] at hK
          have hsz : ∀ a b, ((t.extract a b).size : Int) ≤ 9223372036854775807 := fun a b => by
            have : (t.extract a b).size ≤ t.size := by simp [ByteArray.size_extract]; omega
            omega
          have hs1 : ((cutAt t 46).1.size : Int) ≤ 9223372036854775807 := by
            rw [cutAt]; split
            · exact hsz _ _
            · exact htz
          have hs2 : ((cutAt t 46).2.1.size : Int) ≤ 9223372036854775807 := by
            rw [cutAt]; split
            · exact hsz _ _
            · show ((0 : Nat) : Int) ≤ 9223372036854775807
              omega
          have fin : ∀ b : Bool, b = decB t → K (.p (.bool b)) ba _ := fun b hb => by rw [hb]; exact hK
          (conv => whnf)
          refine CallVC.pureF (Cut_spec t htz 46) rfl ?_
          (conv => whnf)
          refine splitB_intro (fun h7 => ?_) (fun h7 => ?_)
          · have h7 : (cutAt t 46).2.2 = true := h7
            (conv => whnf)
            refine CallVC.pureF (vdigits_spec _ hs1) rfl ?_
            (conv => whnf)
            refine splitB_intro (fun h8 => ?_) (fun h8 => ?_)
            · have h8 : digitsB (cutAt t 46).1 = true := h8
              (conv => whnf)
              refine CallVC.pureF (vdigits_spec _ hs2) rfl ?_
              (conv => whnf)
              exact fin _ (by rw [decB, h7, h8]; rfl)
            · have h8 : digitsB (cutAt t 46).1 = false := h8
              (conv => whnf)
              exact fin _ (by rw [decB, h7, h8]; rfl)
          · have h7 : (cutAt t 46).2.2 = false := h7
            (conv => whnf)
            refine splitB_f rfl ?_
            (conv => whnf)
            exact fin _ (by rw [decB, h7]; rfl)
        · rw [vtextOk, if_neg h4, if_neg h5, if_neg h6] at hK
          (conv => whnf)
          exact hK

def numK (t : Int) : Bool := decide (t = 2) || decide (t = 3)
def markK (t : Int) : Bool := decide (8 ≤ t)
theorem vnumber_spec (t : Int) : pureF Tryd.prog 64 [.p (.int .i64 t)] (.p (.bool (numK t))) := by
  refine pureF_of f64_ok fun H => ?_
  (conv => whnf)
  refine splitB_eq (fun h => ?_) (fun h => ?_)
  · (conv => whnf)
    exact ⟨by rw [numK, decide_eq_true h]; rfl, rfl⟩
  · (conv => whnf)
    exact ⟨by rw [numK, decide_eq_false h, Bool.false_or]; rfl, rfl⟩
theorem vmark_spec (t : Int) : pureF Tryd.prog 60 [.p (.int .i64 t)] (.p (.bool (markK t))) := by
  refine pureF_of f60_ok fun H => ?_
  (conv => whnf)
  exact ⟨rfl, rfl⟩

def riskyB (o : Int) (st : List Int) : Bool := (decide (o = 22) || decide (o = 13) || decide (o = 14) || decide (o = 15)) && !st.any markK

theorem anyMark_lend {rest : List Ob} {a : AV} {l : List Int} (h : OwnL rest a l) (hl : (l.length : Int) ≤ 9223372036854775807) (ba : List Ob) (o0 o1 : Ob) {K : AV → List Ob → List Ob → Prop} (k : K (.p (.bool (l.any markK))) ba (o0 :: o1 :: rest)) :
    CallVC Tryd.prog 59 [a, .p (.fn (.func 60))] ba (o0 :: o1 :: rest) K := by
  obtain ⟨q, h1, h2⟩ := h.lend ba o0 o1
  have := ContainsFuncN_spec l hl markK 60 rfl (fun a _ => vmark_spec a)
  exact CallVC.lend (ps := [q, .fn (.func 60)]) (this.args (.p _ _ _ _ h2 (.same _ _ _ .nil))) (.bool _) (.cons _ _ _ _ h1 (.cons _ _ _ _ (.p _) .nil)) k

theorem risky_keep (p : Pg) (o : Int) (s : KS) (hst : (s.st.length : Int) ≤ 9223372036854775807) (vs : List AV) (stv hv : AV) (rest : List Ob) (K : AV → List Ob → List Ob → Prop) (hfam : Fam rest (stv :: hv :: vs) (s.st :: s.hs :: s.pd.map Prod.snd))
    (hK : K (.p (.bool (riskyB o s.st))) ba ([.mapA (pkey s.pd) vs, .cells [.p (.int .u8 p.κ), .p (.list 1 (tP p.T)), .p (.list 3 (cP p.C)), .p (.int .i64 p.S), stv, .mapr (.l 0), hv, .p (.int .i64 s.hi)]] ++ rest)) :
    CallVC Tryd.prog 45 [.ref (.l 1) 0, .p (.int .u8 o)] ba ([.mapA (pkey s.pd) vs, .cells [.p (.int .u8 p.κ), .p (.list 1 (tP p.T)), .p (.list 3 (cP p.C)), .p (.int .i64 p.S), stv, .mapr (.l 0), hv, .p (.int .i64 s.hi)]] ++ rest) K := by
  refine CallVC.inline f45_ok ?_
  have hown := hfam.own 0 stv s.st rfl rfl
  (conv => whnf)
  refine splitB_eq (fun h1 => ?_) (fun h1 => ?_)
  · have hq : riskyB o s.st = !s.st.any markK := by rw [riskyB]; simp [h1]
    rw [hq] at hK
    (conv => whnf)
    refine splitB_t (by simp [h1]) ?_
    (conv => whnf)
    refine anyMark_lend hown hst ba _ _ ?_
    (conv => whnf)
    exact hK
  · (conv => whnf)
    refine splitB_eq (fun h2 => ?_) (fun h2 => ?_)
    · have hq : riskyB o s.st = !s.st.any markK := by rw [riskyB]; simp [h2]
      rw [hq] at hK
      (conv => whnf)
      refine splitB_t (by simp [h2]) ?_
      (conv => whnf)
      refine anyMark_lend hown hst ba _ _ ?_
      (conv => whnf)
      exact hK
    · (conv => whnf)
      refine splitB_eq (fun h3 => ?_) (fun h3 => ?_)
      · have hq : riskyB o s.st = !s.st.any markK := by rw [riskyB]; simp [h3]
        rw [hq] at hK
        (conv => whnf)
        refine splitB_t (by simp [h3]) ?_
        (conv => whnf)
        refine anyMark_lend hown hst ba _ _ ?_
        (conv => whnf)
        exact hK
      · (conv => whnf)
        refine splitB_eq (fun h4 => ?_) (fun h4 => ?_)
        · have hq : riskyB o s.st = !s.st.any markK := by rw [riskyB]; simp [h4]
          rw [hq] at hK
          (conv => whnf)
          refine anyMark_lend hown hst ba _ _ ?_
          (conv => whnf)
          exact hK
        · rw [riskyB, decide_eq_false h1, decide_eq_false h2, decide_eq_false h3, decide_eq_false h4] at hK
          (conv => whnf)
          exact hK

def arithB (o : Int) (s : KS) : Option KS :=
  if !numK (topS s.st 2) || !numK (topS s.st 1) then none
  else if o = 14 ∧ topS s.st 2 ≠ 2 then none
  else if (o = 14 ∨ o = 15) ∧ topS s.st 1 ≠ 2 then none
  else if o = 14 ∨ o = 15 then some (s.swap 2 [topS s.st 2])
  else some (s.swap 2 [if topS s.st 1 > topS s.st 2 then topS s.st 1 else topS s.st 2])
/-- A method that answers whether it went, and where it led. -/
def MO (p : Pg) (f : Nat) (args : List AV) (s : KS) (o : Option KS) : Prop :=
  ∀ {ba : List Ob} (lo : List Ob) (K : AV → List Ob → List Ob → Prop), CP p s lo → (∀ lo' s', CP p s' lo' → (∀ s'', o = some s'' → s' = s'') → K (.p (.bool o.isSome)) ba lo') → CallVC Tryd.prog f (.ref (.l 1) 0 :: args) ba lo K

theorem topS_pos {st : List Int} {n : Nat} {t : Int} (h : topS st n = t) (ht : t ≠ 0) : n ≤ st.length := by
  unfold topS at h
  split at h
  · assumption
  · exact absurd h.symm ht
theorem arith_spec (p : Pg) (o : Int) (s : KS) (hst : (s.st.length : Int) ≤ 1000000000) : MO p 65 [.p (.int .u8 o)] s (arithB o s) := by
  intro ba lo K hcs hK
  refine CallVC.inline f65_ok ?_
  (conv => whnf)
  refine topN_spec _ _ _ _ s 2 (by omega) (by omega) (by omega) lo _ hcs fun lo hcs => ?_
  (conv => whnf)
  refine topN_spec _ _ _ _ s 1 (by omega) (by omega) (by omega) lo _ hcs fun lo hcs => ?_
  (conv => whnf)
  refine CallVC.pureF (vnumber_spec _) rfl ?_
  have no : arithB o s = none → K (.p (.bool false)) ba lo := fun h => by
    have := hK lo s hcs (fun _ e => by rw [h] at e; cases e)
    rw [h] at this
    exact this
  (conv => whnf)
  refine splitB_intro (fun ha => ?_) (fun ha => ?_)
  · have ha : (!numK (topS s.st 2)) = true := ha
    (conv => whnf)
    refine splitB_t rfl ?_
    (conv => whnf)
    exact no (by rw [arithB, ha]; rfl)
  · have ha : (!numK (topS s.st 2)) = false := ha
    (conv => whnf)
    refine CallVC.pureF (vnumber_spec _) rfl ?_
    (conv => whnf)
    refine splitB_intro (fun hb => ?_) (fun hb => ?_)
    · have hb : (!numK (topS s.st 1)) = true := hb
      (conv => whnf)
      exact no (by rw [arithB, ha, hb]; rfl)
    · have hb : (!numK (topS s.st 1)) = false := hb
      have hr : arithB o s = if o = 14 ∧ topS s.st 2 ≠ 2 then none
  else if (o = 14 ∨ o = 15) ∧ topS s.st 1 ≠ 2 then none
  else if o = 14 ∨ o = 15 then some (s.swap 2 [topS s.st 2])
  else some (s.swap 2 [if topS s.st 1 > topS s.st 2 then topS s.st 1 else topS s.st 2]) := by rw [arithB, ha, hb]; rfl
      have h2 : 2 ≤ s.st.length := by
        rcases Nat.lt_or_ge s.st.length 2 with h | h
        · exfalso
          have : topS s.st 2 = 0 := by rw [topS, if_neg (by omega)]
          rw [this] at ha
          simp [numK] at ha
        · exact h
      have yes : ∀ (v : Int) lo', arithB o s = some (s.swap 2 [v]) → CP p (s.swap 2 [v]) lo' → K (.p (.bool true)) ba lo' := fun v lo' h h' => by
        have := hK lo' _ h' (fun _ e => by rw [h] at e; exact Option.some.inj e)
        rw [h] at this
        exact this
      have hsz : ((s.st.length + [topS s.st 2].length : Nat) : Int) ≤ 1073741824 := by simp; omega
      (conv => whnf)
      by_cases h14 : o = 14
      · refine splitB_t (by simp [h14]) ?_
        (conv => whnf)
        refine splitB_ne (fun h => ?_) (fun h => ?_)
        · (conv => whnf)
          exact no (by rw [hr, if_pos ⟨h14, h⟩])
        · (conv => whnf)
          refine splitB_ne (fun h' => ?_) (fun h' => ?_)
          · (conv => whnf)
            exact no (by rw [hr, if_neg (fun e => e.2 h), if_pos ⟨.inl h14, h'⟩])
          · (conv => whnf)
            refine swap_spec _ _ _ _ s 2 [topS s.st 2] _ (.inr rfl) h2 hsz lo _ hcs fun lo hcs => ?_
            (conv => whnf)
            exact yes _ _ (by rw [hr, if_neg (fun e => e.2 h), if_neg (fun e => e.2 h'), if_pos (.inl h14)]) hcs
      · refine splitB_f (by simp [h14]) ?_
        (conv => whnf)
        by_cases h15 : o = 15
        · refine splitB_t (by simp [h15]) ?_
          (conv => whnf)
          refine splitB_ne (fun h' => ?_) (fun h' => ?_)
          · (conv => whnf)
            exact no (by rw [hr, if_neg (fun e => h14 e.1), if_pos ⟨.inr h15, h'⟩])
          · (conv => whnf)
            refine swap_spec _ _ _ _ s 2 [topS s.st 2] _ (.inr rfl) h2 hsz lo _ hcs fun lo hcs => ?_
            (conv => whnf)
            exact yes _ _ (by rw [hr, if_neg (fun e => h14 e.1), if_neg (fun e => e.2 h'), if_pos (.inr h15)]) hcs
        · refine splitB_f (by simp [h15]) ?_
          (conv => whnf)
          have hno : ¬(o = 14 ∨ o = 15) := fun e => e.elim h14 h15
          refine swap_spec _ _ _ _ s 2 [if topS s.st 1 > topS s.st 2 then topS s.st 1 else topS s.st 2] _ (.inr rfl) h2 hsz lo _ hcs fun lo hcs => ?_
          (conv => whnf)
          exact yes _ _ (by rw [hr, if_neg (fun e => h14 e.1), if_neg (fun e => hno e.1), if_neg hno]) hcs
end Go.Proofs.YtgdimfogijfmiaaDoor.AD

namespace Go.Proofs.YtgdimfogijfmiaaDoor.AD
open Go.Proofs
set_option linter.unusedVariables false
set_option linter.unusedSimpArgs false
set_option maxRecDepth 100000
variable {ba : List Ob}

def pidx (k : Int) : List (Int × List Int) → Option Nat
  | [] => none
  | q :: r => if q.1 = k then some 0 else (pidx k r).map (· + 1)
theorem pidx_lt {k : Int} : ∀ {pd : List (Int × List Int)} {j : Nat}, pidx k pd = some j → j < pd.length ∧ ∃ l, pd[j]? = some (k, l)
  | [], j, h => by simp [pidx] at h
  | q :: r, j, h => by
    unfold pidx at h
    split at h
    · rename_i e
      have : j = 0 := by simpa using h.symm
      subst this
      exact ⟨by simp, q.2, by simp [← e]⟩
    · cases h2 : pidx k r with
      | none => rw [h2] at h; simp at h
      | some i =>
        rw [h2] at h
        have : i + 1 = j := by simpa using h
        subst this
        obtain ⟨g1, l, g2⟩ := pidx_lt h2
        exact ⟨by simp; exact g1, l, by simpa using g2⟩
theorem key_ne {a b : Int} (h : ¬a = b) : sameKey (.int .i64 b) (.int .i64 a) = some false := by
  show some (decide (b = a)) = _
  rw [decide_eq_false (fun e => h e.symm)]
theorem key_eq (a : Int) : sameKey (.int .i64 a) (.int .i64 a) = some true := by
  show some (decide (a = a)) = _
  rw [decide_eq_true rfl]
theorem key_ok (a : Int) : keyOk (some .i64) (.int .i64 a) = true := rfl

theorem afind_pd (k : Int) : ∀ (pd : List (Int × List Int)) (vs : List AV), vs.length = pd.length → afind (some .i64) (.int .i64 k) (pkey pd) vs = some ((pidx k pd).bind fun j => vs[j]?)
  | [], _, _ => rfl
  | q :: r, [], h => by simp at h
  | q :: r, v :: vs, h => by
    have ih := afind_pd k r vs (by simpa using h)
    show (match keyOk (some .i64) (.int .i64 q.1), sameKey (.int .i64 k) (.int .i64 q.1) with | true, some true => some (some v) | true, some false => afind (some .i64) (.int .i64 k) (pkey r) vs | _, _ => none) = _
    unfold pidx
    by_cases e : q.1 = k
    · rw [if_pos e, e, key_eq, key_ok]; rfl
    · rw [if_neg e, key_ne e, key_ok]
      show afind (some .i64) (.int .i64 k) (pkey r) vs = _
      rw [ih]
      cases pidx k r <;> simp
theorem aput_pd (k : Int) (a : AV) : ∀ (pd : List (Int × List Int)) (vs : List AV), vs.length = pd.length → aput (some .i64) (.int .i64 k) a (pkey pd) vs = some (match pidx k pd with | none => (pkey pd ++ [.int .i64 k], vs ++ [a]) | some j => (pkey pd, vs.set j a))
  | [], [], _ => rfl
  | [], v :: vs, h => by simp at h
  | q :: r, [], h => by simp at h
  | q :: r, v :: vs, h => by
    have ih := aput_pd k a r vs (by simpa using h)
    show (match keyOk (some .i64) (.int .i64 q.1), sameKey (.int .i64 k) (.int .i64 q.1) with | true, some true => some (PV.int .i64 k :: pkey r, a :: vs) | true, some false => (aput (some .i64) (.int .i64 k) a (pkey r) vs).map fun (t : List PV × List AV) => (PV.int .i64 q.1 :: t.1, v :: t.2) | _, _ => none) = _
    unfold pidx
    by_cases e : q.1 = k
    · rw [if_pos e, e, key_eq, key_ok]
      show some (PV.int .i64 k :: pkey r, a :: vs) = some (pkey (q :: r), a :: vs)
      rw [← e]; rfl
    · rw [if_neg e, key_ne e, key_ok]
      show (aput (some .i64) (.int .i64 k) a (pkey r) vs).map _ = _
      rw [ih]
      cases pidx k r <;> rfl
theorem adel_pd (k : Int) : ∀ (pd : List (Int × List Int)) (vs : List AV), vs.length = pd.length → adel (some .i64) (.int .i64 k) (pkey pd) vs = some (match pidx k pd with | none => (pkey pd, vs) | some j => (pkey (pd.eraseIdx j), vs.eraseIdx j))
  | [], [], _ => rfl
  | [], v :: vs, h => by simp at h
  | q :: r, [], h => by simp at h
  | q :: r, v :: vs, h => by
    have ih := adel_pd k r vs (by simpa using h)
    show (match keyOk (some .i64) (.int .i64 q.1), sameKey (.int .i64 k) (.int .i64 q.1) with | true, some true => some (pkey r, vs) | true, some false => (adel (some .i64) (.int .i64 k) (pkey r) vs).map fun (t : List PV × List AV) => (PV.int .i64 q.1 :: t.1, v :: t.2) | _, _ => none) = _
    unfold pidx
    by_cases e : q.1 = k
    · rw [if_pos e, e, key_eq, key_ok]; rfl
    · rw [if_neg e, key_ne e, key_ok]
      show (adel (some .i64) (.int .i64 k) (pkey r) vs).map _ = _
      rw [ih]
      cases pidx k r <;> rfl

theorem List.set_getElem?_self' {α : Type} : ∀ {l : List α} {j : Nat} {x : α}, l[j]? = some x → l.set j x = l
  | [], j, x, h => rfl
  | y :: r, 0, x, h => by simp at h; rw [h]; rfl
  | y :: r, j + 1, x, h => by
    show y :: r.set j x = _
    rw [List.set_getElem?_self' (by simpa using h)]

def leadP (to : Int) (st : List Int) (pd : List (Int × List Int)) : List (Int × List Int) :=
  match pidx to pd with
  | none => pd ++ [(to, st)]
  | some j => if (pd[j]?.map Prod.snd) = some st then pd else pd.set j (to, [0])
def forwardB (p : Pg) (i to : Int) (s : KS) : Option KS :=
  if to ≤ i ∨ (p.C.length : Int) ≤ to then none else some { s with pd := leadP to s.st s.pd }

theorem clone_spec {rest : List Ob} {a : AV} {l : List Int} (h : OwnL rest a l) (hl : (l.length : Int) ≤ 1073741824) (o0 o1 : Ob) :
    ∃ a' X, OwnL (rest ++ X) a' l ∧ (∀ k, ixV a' = some k → rest.length + 2 ≤ k) ∧ CallVC Tryd.prog 80 [a] ba ([o0, o1] ++ rest) (fun r b lo => r = a' ∧ b = ba ∧ lo = [o0, o1] ++ (rest ++ X)) := by
  cases l with
  | nil =>
    refine ⟨.p .emp, [], .inr (.inl ⟨rfl, rfl⟩), fun k hk => by (cases hk), ?_⟩
    refine CallVC.byNil (pre := []) (post := []) (h.empt ba o0 o1) ?_ ?_
    · refine CallVC.le ?_
      refine CallVC.inline f80_ok ?_
      (conv => whnf)
      refine splitB_t rfl ?_
      (conv => whnf)
      exact .inr ⟨.nils, .emp, rfl, PV.le.nilsE, rfl, rfl, by rw [List.append_nil]⟩
    · refine CallVC.inline f80_ok ?_
      (conv => whnf)
      refine splitB_f rfl ?_
      (conv => whnf)
      exact ⟨rfl, rfl, by rw [List.append_nil]⟩
  | cons x r =>
    rcases h with ⟨_, h⟩ | ⟨_, h⟩ | ⟨k, g, es, rfl, h2, h3, h4⟩
    · cases h
    · cases h
    · refine ⟨.view (.l (rest.length + 2)) 0 1 (x :: r).length, [.buf 0 1 (iP (x :: r))], .inr (.inr ⟨rest.length, 0, iP (x :: r), rfl, by simp, by rw [iP_len]; exact Nat.le_refl _, by rw [← iP_len (x :: r)]; simp⟩), fun k hk => by (cases hk; exact Nat.le_refl _), ?_⟩
      refine CallVC.inline f80_ok ?_
      (conv => whnf)
      refine ⟨aliveK _ _ h2, ?_⟩
      refine splitB_f rfl ?_
      (conv => whnf)
      refine atK_in k _ _ _ h2 ?_
      refine ⟨⟨rfl, rfl, rfl, h3⟩, _, h4, ?_⟩
      (conv => whnf)
      refine ⟨by simp [room, iP]; simp at hl; omega, ?_⟩
      rw [pushK_eq]
      (conv => whnf)
      refine ⟨?_, rfl, rfl⟩
      show AV.view (.l (rest.length + 1 + 1)) 0 1 ((r.map (PV.int .i64)).length + 1) = _
      rw [List.length_map]; rfl

theorem equal_lend {rest : List Ob} {a b : AV} {l m : List Int} (ha : OwnL rest a l) (hb : OwnL rest b m) (hl : (l.length : Int) ≤ 9223372036854775807) (hm : (m.length : Int) ≤ 9223372036854775807) (ba : List Ob) (o0 o1 : Ob) {K : AV → List Ob → List Ob → Prop} (k : K (.p (.bool (decide (l = m)))) ba (o0 :: o1 :: rest)) :
    CallVC Tryd.prog 44 [a, b] ba (o0 :: o1 :: rest) K := by
  obtain ⟨q, h1, h2⟩ := ha.lend ba o0 o1
  obtain ⟨q', h1', h2'⟩ := hb.lend ba o0 o1
  have := EqualI_spec l m hl hm
  exact CallVC.lend (ps := [q, q']) (this.args (.p _ _ _ _ h2 (.p _ _ _ _ h2' .nil))) (.bool _) (.cons _ _ _ _ h1 (.cons _ _ _ _ h1' .nil)) k

theorem forward_def (p : Pg) (i to : Int) (s : KS) (hst : (s.st.length : Int) ≤ 1073741824) (hpd : ∀ q, q ∈ s.pd → (q.2.length : Int) ≤ 1073741824) (vs : List AV) (stv hv : AV) (rest : List Ob) (hfam : Fam rest (stv :: hv :: vs) (s.st :: s.hs :: s.pd.map Prod.snd)) :
    ∃ lo' s', CP p s' lo' ∧ (∀ s'', forwardB p i to s = some s'' → s' = s'') ∧ ∀ K : AV → List Ob → List Ob → Prop, K (.p (.bool (forwardB p i to s).isSome)) ba lo' →
    CallVC Tryd.prog 66 [.ref (.l 1) 0, .p (.int .i64 i), .p (.int .i64 to), stv] ba ([.mapA (pkey s.pd) vs, .cells [.p (.int .u8 p.κ), .p (.list 1 (tP p.T)), .p (.list 3 (cP p.C)), .p (.int .i64 p.S), stv, .mapr (.l 0), hv, .p (.int .i64 s.hi)]] ++ rest) K := by
  have hown := hfam.own 0 stv s.st rfl rfl
  have hcs : CP p s ([.mapA (pkey s.pd) vs, .cells [.p (.int .u8 p.κ), .p (.list 1 (tP p.T)), .p (.list 3 (cP p.C)), .p (.int .i64 p.S), stv, .mapr (.l 0), hv, .p (.int .i64 s.hi)]] ++ rest) := ⟨vs, stv, hv, rest, rfl, hfam⟩
  have hl := cP_len p.C
  have hvl : vs.length = s.pd.length := by simpa using hfam.len
  by_cases h1 : to ≤ i
  · have hr : forwardB p i to s = none := by rw [forwardB, if_pos (.inl h1)]
    rw [hr]
    refine ⟨_, s, hcs, fun _ e => (by cases e), fun K hK => CallVC.inline f66_ok ?_⟩
    (conv => whnf)
    refine splitB_t (decide_eq_true h1) ?_
    (conv => whnf)
    refine splitB_t rfl ?_
    (conv => whnf)
    exact hK
  by_cases h2 : (p.C.length : Int) ≤ to
  · have hr : forwardB p i to s = none := by rw [forwardB, if_pos (.inr h2)]
    rw [hr]
    refine ⟨_, s, hcs, fun _ e => (by cases e), fun K hK => CallVC.inline f66_ok ?_⟩
    (conv => whnf)
    refine splitB_f (decide_eq_false h1) ?_
    (conv => whnf)
    refine splitB_t (decide_eq_true (by omega)) ?_
    (conv => whnf)
    exact hK
  have hr : forwardB p i to s = some { s with pd := leadP to s.st s.pd } := by rw [forwardB, if_neg (by rw [not_or]; omega)]
  rw [hr]
  cases hx : pidx to s.pd with
  | none =>
    obtain ⟨a', X, hOwn, hix, hcall⟩ := clone_spec hown hst (.mapA (pkey s.pd) vs) (.cells [.p (.int .u8 p.κ), .p (.list 1 (tP p.T)), .p (.list 3 (cP p.C)), .p (.int .i64 p.S), stv, .mapr (.l 0), hv, .p (.int .i64 s.hi)])
    have hput := aput_pd to a' s.pd vs hvl
    have hget := afind_pd to s.pd vs hvl
    rw [hx] at hput hget
    have e : leadP to s.st s.pd = s.pd ++ [(to, s.st)] := by rw [leadP, hx]
    refine ⟨[.mapA (pkey s.pd ++ [.int .i64 to]) (vs ++ [a']), .cells [.p (.int .u8 p.κ), .p (.list 1 (tP p.T)), .p (.list 3 (cP p.C)), .p (.int .i64 p.S), stv, .mapr (.l 0), hv, .p (.int .i64 s.hi)]] ++ (rest ++ X), _, ⟨vs ++ [a'], stv, hv, rest ++ X, ?_, ?_⟩, fun _ e => Option.some.inj e, fun K hK => CallVC.inline f66_ok ?_⟩
    · rw [e]
      simp [pkey]
    · have h := hfam.snoc (rest' := rest ++ X) hOwn hix (fun b l hb => hb.more X)
      simpa [e] using h
    (conv => whnf)
    refine splitB_f (decide_eq_false h1) ?_
    (conv => whnf)
    refine splitB_f (decide_eq_false (by omega)) ?_
    (conv => whnf)
    refine ⟨rfl, ?_⟩
    refine ⟨_, hget, ?_⟩
    (conv => whnf)
    refine splitB_f rfl ?_
    (conv => whnf)
    refine ⟨⟨_, _, _, hcall, ?_⟩⟩
    (conv => whnf)
    refine ⟨rfl, ?_⟩
    (conv => whnf)
    refine ⟨rfl, ?_⟩
    (conv => whnf)
    refine ⟨rfl, ⟨_, hput, ?_⟩⟩
    (conv => whnf)
    exact hK
  | some j =>
    obtain ⟨hj, l, hl2⟩ := pidx_lt hx
    obtain ⟨v, hv1⟩ : ∃ v, vs[j]? = some v := ⟨_, List.getElem?_eq_getElem (by omega)⟩
    have hb : ((some j).bind fun j => vs[j]?) = some v := hv1
    have hov : OwnL rest v l := hfam.own (j + 2) v l (by simpa using hv1) (by simp [hl2])
    have hll : (l.length : Int) ≤ 1073741824 := hpd _ (List.mem_of_getElem? hl2)
    have hput := fun a' => aput_pd to a' s.pd vs hvl
    have hget := afind_pd to s.pd vs hvl
    simp only [hx] at hput hget
    rw [hb] at hget
    have hlead : leadP to s.st s.pd = if l = s.st then s.pd else s.pd.set j (to, [0]) := by
      rw [leadP, hx]
      show (if (s.pd[j]?.map Prod.snd) = some s.st then s.pd else s.pd.set j (to, [0])) = _
      rw [hl2]
      simp
    by_cases hq : l = s.st
    · refine ⟨[.mapA (pkey s.pd) vs, .cells [.p (.int .u8 p.κ), .p (.list 1 (tP p.T)), .p (.list 3 (cP p.C)), .p (.int .i64 p.S), stv, .mapr (.l 0), hv, .p (.int .i64 s.hi)]] ++ rest, _, ⟨vs, stv, hv, rest, by rw [hlead, if_pos hq], by rw [hlead, if_pos hq]; exact hfam⟩, fun _ e => Option.some.inj e, fun K hK => CallVC.inline f66_ok ?_⟩
      (conv => whnf)
      refine splitB_f (decide_eq_false h1) ?_
      (conv => whnf)
      refine splitB_f (decide_eq_false (by omega)) ?_
      (conv => whnf)
      refine ⟨rfl, ?_⟩
      refine ⟨_, hget, ?_⟩
      rcases hov with ⟨rfl, he⟩ | ⟨rfl, he⟩ | ⟨k, g, es, rfl, g2, g3, g4⟩
      · (conv => whnf)
        refine splitB_t rfl ?_
        (conv => whnf)
        refine equal_lend (.inl ⟨rfl, he⟩) hown (by omega) (by omega) ba _ _ ?_
        (conv => whnf)
        refine splitB_f (by simp [hq]) ?_
        (conv => whnf)
        exact hK
      · (conv => whnf)
        refine splitB_t rfl ?_
        (conv => whnf)
        refine equal_lend (.inr (.inl ⟨rfl, he⟩)) hown (by omega) (by omega) ba _ _ ?_
        (conv => whnf)
        refine splitB_f (by simp [hq]) ?_
        (conv => whnf)
        exact hK
      · (conv => whnf)
        refine splitB_t rfl ?_
        (conv => whnf)
        refine equal_lend (.inr (.inr ⟨k, g, es, rfl, g2, g3, g4⟩)) hown (by omega) (by omega) ba _ _ ?_
        (conv => whnf)
        refine splitB_f (by simp [hq]) ?_
        (conv => whnf)
        exact hK
    · refine ⟨[.mapA (pkey s.pd) (vs.set j (.view (.l (rest.length + 2)) 0 1 1)), .cells [.p (.int .u8 p.κ), .p (.list 1 (tP p.T)), .p (.list 3 (cP p.C)), .p (.int .i64 p.S), stv, .mapr (.l 0), hv, .p (.int .i64 s.hi)]] ++ (rest ++ [.buf 0 1 [.int .i64 0]]), _, ⟨vs.set j (.view (.l (rest.length + 2)) 0 1 1), stv, hv, rest ++ [.buf 0 1 [.int .i64 0]], ?_, ?_⟩, fun _ e => Option.some.inj e, fun K hK => CallVC.inline f66_ok ?_⟩
      · have hk : pkey (leadP to s.st s.pd) = pkey s.pd := by
          rw [hlead, if_neg hq, pkey, List.map_set]
          exact List.set_getElem?_self' (by rw [List.getElem?_map, hl2]; rfl)
        rw [hk]
      · have h := hfam.put (j + 2) (rest' := rest ++ [.buf 0 1 [.int .i64 0]]) (a' := .view (.l (rest.length + 2)) 0 1 1) (l' := [0]) (by simpa using hv1) (.inr (.inr ⟨rest.length, 0, [.int .i64 0], rfl, by simp, by simp, rfl⟩)) (fun k hk => by cases hk; exact .inr (Nat.le_refl _)) (fun b l hb _ => hb.more _)
        rw [hlead, if_neg hq, List.map_set]
        exact h
      (conv => whnf)
      refine splitB_f (decide_eq_false h1) ?_
      (conv => whnf)
      refine splitB_f (decide_eq_false (by omega)) ?_
      (conv => whnf)
      refine ⟨rfl, ?_⟩
      refine ⟨_, hget, ?_⟩
      rcases hov with ⟨rfl, he⟩ | ⟨rfl, he⟩ | ⟨k, g, es, rfl, g2, g3, g4⟩
      · (conv => whnf)
        refine splitB_t rfl ?_
        (conv => whnf)
        refine equal_lend (.inl ⟨rfl, he⟩) hown (by omega) (by omega) ba _ _ ?_
        (conv => whnf)
        refine splitB_t (by simp [hq]) ?_
        (conv => whnf)
        rw [pushK_eq]
        (conv => whnf)
        refine ⟨rfl, ⟨_, hput _, ?_⟩⟩
        (conv => whnf)
        exact hK
      · (conv => whnf)
        refine splitB_t rfl ?_
        (conv => whnf)
        refine equal_lend (.inr (.inl ⟨rfl, he⟩)) hown (by omega) (by omega) ba _ _ ?_
        (conv => whnf)
        refine splitB_t (by simp [hq]) ?_
        (conv => whnf)
        rw [pushK_eq]
        (conv => whnf)
        refine ⟨rfl, ⟨_, hput _, ?_⟩⟩
        (conv => whnf)
        exact hK
      · (conv => whnf)
        refine splitB_t rfl ?_
        (conv => whnf)
        refine equal_lend (.inr (.inr ⟨k, g, es, rfl, g2, g3, g4⟩)) hown (by omega) (by omega) ba _ _ ?_
        (conv => whnf)
        refine splitB_t (by simp [hq]) ?_
        (conv => whnf)
        rw [pushK_eq]
        (conv => whnf)
        refine ⟨rfl, ⟨_, hput _, ?_⟩⟩
        (conv => whnf)
        exact hK
end Go.Proofs.YtgdimfogijfmiaaDoor.AD
