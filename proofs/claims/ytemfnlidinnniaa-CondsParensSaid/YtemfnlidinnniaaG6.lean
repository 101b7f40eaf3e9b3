/- Chapter 20: trees, and how large they are. -/
import Derived.Test.YtemfnlidinnniaaG5
import Derived.Lib.Slices
import Derived.WalkKit
import Derived.Laws.Externs
import Derived.KernelRfl
import Derived.Test.YtemfnlidinnniaaG3
import Derived.Lib.Bytealg
import Derived.Test.YtemfnlidinnniaaG4
namespace Go.Proofs.Ytemfnlidinnniaa.AD
open Go.Proofs
set_option linter.unusedVariables false
set_option linter.unusedSimpArgs false
set_option maxRecDepth 100000

inductive Ex where
  | mk (op : Int) (text : ByteArray) (args : List Ex)

theorem Ex.ind {motive : Ex → Prop} (h : ∀ o t xs, (∀ a, a ∈ xs → motive a) → motive (.mk o t xs)) (e : Ex) : motive e := by
  match e with
  | .mk o t xs => exact h o t xs fun a ha => Ex.ind h a
termination_by SizeOf.sizeOf e
decreasing_by
  have := List.sizeOf_lt_of_mem ha
  simp only [Ex.mk.sizeOf_spec]
  omega

mutual
def enc : Ex → PV
  | .mk o t xs => .agg [.int .u8 o, .str t, .list 3 (encs xs)]
def encs : List Ex → List PV
  | [] => []
  | a :: r => enc a :: encs r
end

theorem encs_map : ∀ l, encs l = l.map enc
  | [] => rfl
  | a :: r => by rw [encs, encs_map r]; rfl

mutual
def size : Ex → Int → Int
  | .mk _ _ xs, most => sizes xs most 1
def sizes : List Ex → Int → Int → Int
  | [], most, n => n
  | a :: r, most, n => if n ≤ most then sizes r most (n + size a (most - n)) else n
end

theorem sizes_le : (∀ e most, 1 ≤ size e most ∧ (size e most ≤ 1 ∨ size e most ≤ most + 1)) ∧ ∀ l most n, 1 ≤ n → n ≤ sizes l most n ∧ (sizes l most n ≤ n ∨ sizes l most n ≤ most + 1) := by
  have main : ∀ l, (∀ a, a ∈ l → ∀ most, 1 ≤ size a most ∧ (size a most ≤ 1 ∨ size a most ≤ most + 1)) → ∀ most n, 1 ≤ n → n ≤ sizes l most n ∧ (sizes l most n ≤ n ∨ sizes l most n ≤ most + 1) := by
    intro l
    induction l with
    | nil => intro _ most n h; simp only [sizes]; omega
    | cons a r ih =>
      intro hl most n h
      simp only [sizes]
      split
      · have := hl a (by simp) (most - n)
        have := ih (fun b hb => hl b (by simp [hb])) most (n + size a (most - n)) (by omega)
        omega
      · omega
  have one : ∀ e most, 1 ≤ size e most ∧ (size e most ≤ 1 ∨ size e most ≤ most + 1) := by
    intro e
    induction e using Ex.ind with
    | h o t xs ih => intro most; simp only [size]; have := main xs ih most 1 (by omega); omega
  exact ⟨one, fun l => main l fun a _ => one a⟩

/-- Nothing in it is larger than can be counted. -/
inductive Fits : Ex → Prop
  | mk (o : Int) (t : ByteArray) (xs : List Ex) : 0 ≤ o → (t.size : Int) ≤ 9223372036854775807 → (xs.length : Int) ≤ 9223372036854775807 → (∀ a, a ∈ xs → Fits a) → Fits (.mk o t xs)

theorem encs_get {xs : List Ex} {i : Nat} {a : Ex} (h : xs[i]? = some a) : (encs xs)[i]? = some (enc a) := by rw [encs_map, List.getElem?_map, h]; rfl
theorem encs_len (xs : List Ex) : (encs xs).length = xs.length := by rw [encs_map, List.length_map]

end Go.Proofs.Ytemfnlidinnniaa.AD

namespace Go.Proofs.Ytemfnlidinnniaa.AD
open Go.Proofs Go.RowKit
set_option linter.unusedVariables false
set_option linter.unusedSimpArgs false
set_option linter.unusedSectionVars false
set_option maxRecDepth 100000

theorem index_spec (l : List ByteArray) (s : ByteArray) (hl : l.length ≤ 100) (k : Nat) (hk : l[k]? = some s) (hb : ∀ j, j < k → ∀ u, l[j]? = some u → (s.data.toList == u.data.toList) = false) : pureF Try.prog 69 [.p (.list 1 (l.map .str)), .p (.str s)] (.p (.int .i64 k)) := by
  refine pureF_of f69_ok fun H => ?_
  have hml : (l.map PV.str).length = l.length := List.length_map _
  have hkl := (List.getElem?_eq_some_iff.1 hk).1
  (conv => whnf)
  intro R hR
  have key : ∀ (m i : Nat), i + m = k → R [(0, .p (.list 1 (l.map .str))), (1, .p (.str s)), (7, .p (.int .i64 l.length)), (8, .p (.int .i64 i))] H [] := by
    intro m
    induction m with
    | zero =>
      intro i hi
      have hi : i = k := by omega
      subst hi
      refine hR _ _ _ ?_
      (conv => whnf)
      refine splitB_t (decide_eq_true (by omega)) ?_
      (conv => whnf)
      refine ⟨rfl, .str s, ⟨by omega, by rw [Int.toNat_natCast, List.getElem?_map, hk]; rfl⟩, ?_⟩
      (conv => whnf)
      refine splitB_t (by rw [beq_iff_eq]) ?_
      (conv => whnf)
      exact ⟨rfl, rfl⟩
    | succ m ih =>
      intro i hi
      have hil : i < l.length := by omega
      have hg : l[i]? = some l[i] := List.getElem?_eq_getElem hil
      have hbi := hb i (by omega) _ hg
      refine hR _ _ _ ?_
      (conv => whnf)
      refine splitB_t (decide_eq_true (by omega)) ?_
      (conv => whnf)
      refine ⟨rfl, .str l[i], ⟨by omega, by rw [Int.toNat_natCast, List.getElem?_map, hg]; rfl⟩, ?_⟩
      (conv => whnf)
      refine splitB_f (by rw [ba_toList, ba_toList]; exact hbi) ?_
      (conv => whnf)
      rw [IntWalk.i64_in _ (by omega)]
      exact ih (i + 1) (by omega)
  rw [hml]
  exact key k 0 (by omega)

/-- The same, of a list that nobody knows. -/
theorem index_calls (l : List ByteArray) (s : ByteArray) (hl : l.length ≤ 100) (k : Nat) (hk : l[k]? = some s) (hb : ∀ j, j < k → ∀ u, l[j]? = some u → (s.data.toList == u.data.toList) = false) (w : World) (x : Value) (hx : VP (fun _ => False) w x (.list 1 (l.map .str))) :
    Calls Try.prog 69 #[x, .string s] w fun e w' => e = .returned (.int .i64 k) ∧ Le [] w [] w' := by
  have h := index_spec l s hl k hk hb [] [] w #[x, .string s] (inv_nil w) ⟨rfl, fun j y a hy ha => by
    match j, hy, ha with
    | 0, hy, ha =>
      simp at hy ha; subst hy; subst ha
      exact .p _ _ (hx.less fun b hb hc => by obtain ⟨i, m, h1, _⟩ := hc; simp at h1)
    | 1, hy, ha => simp at hy ha; subst hy; subst ha; exact .p _ _ (.str _)⟩
  refine h.mono fun e w' hw => ?_
  obtain ⟨v, r, H', μ', h1, ⟨rfl, rfl⟩, h3, h4, h5⟩ := hw
  have hμ : μ' = [] := by have := h3.len; simpa using this
  subst hμ
  refine ⟨?_, h5⟩
  rw [h1, h4.int_inv]

theorem results_tmp4 {fn : Func} {t u v x : Tmp} (h : fn.results = #[.tmp t, .tmp u, .tmp v, .tmp x]) (tmps : Array Value) (P : Program) (w : World) :
    (results fn tmps).run P w = .ok (.tuple #[tmps.getD t undef, tmps.getD u undef, tmps.getD v undef, tmps.getD x undef]) w := by
  simp [results, h]
def rels0 : List ByteArray := [⟨#[61, 61]⟩, ⟨#[33, 61]⟩, ⟨#[60]⟩, ⟨#[62]⟩, ⟨#[60, 61]⟩, ⟨#[62, 61]⟩, ⟨#[126, 61]⟩]
theorem le_allocB (w : World) (o : Obj) : Le [] w [] (w.alloc o) :=
  ⟨rfl, rfl, rfl, .refl _, ⟨by simp, fun b hb _ => ⟨fun ⟨i, m, h, _⟩ => by simp at h, heap_alloc_old w _ b hb⟩⟩⟩
theorem rels_vp (w : World) (t : TypeId) : VP (fun _ => False) (w.alloc (.cells #[.string ⟨#[61, 61]⟩, .string ⟨#[33, 61]⟩, .string ⟨#[60]⟩, .string ⟨#[62]⟩, .string ⟨#[60, 61]⟩, .string ⟨#[62, 61]⟩, .string ⟨#[126, 61]⟩] t)) (.slice (some ⟨w.heap.size, 0, none⟩) 7 7) (.list 1 (rels0.map .str)) := by
  have hb := heap_alloc_new w (.cells #[.string ⟨#[61, 61]⟩, .string ⟨#[33, 61]⟩, .string ⟨#[60]⟩, .string ⟨#[62]⟩, .string ⟨#[60, 61]⟩, .string ⟨#[62, 61]⟩, .string ⟨#[126, 61]⟩] t)
  have key : ∀ (j : Nat) (e : PV), (rels0.map PV.str)[j]? = some e → ∃ s, rels0[j]? = some s ∧ e = .str s := fun j e h => by
    rw [List.getElem?_map] at h
    obtain ⟨s, h1, h2⟩ := Option.map_eq_some_iff.1 h
    exact ⟨s, h1, h2.symm⟩
  have := VP.list (M := fun _ => False) (w := w.alloc (.cells #[.string ⟨#[61, 61]⟩, .string ⟨#[33, 61]⟩, .string ⟨#[60]⟩, .string ⟨#[62]⟩, .string ⟨#[60, 61]⟩, .string ⟨#[62, 61]⟩, .string ⟨#[126, 61]⟩] t)) w.heap.size 0 7 1 (rels0.map PV.str) (fun j => .string (rels0.getD j default)) (fun h => h) (by simp) (by decide)
    (fun j e h => rfl) (fun j e h i x hx => ?_) fun j e h => ?_
  · exact this
  · obtain ⟨s, h1, rfl⟩ := key j e h
    have hi : i = 0 := by
      have := (Array.getElem?_eq_some_iff.1 hx).1
      simp [Value.cells] at this
      omega
    subst hi
    simp [Value.cells] at hx
    subst hx
    refine ⟨rfl, ?_⟩
    simp only [Nat.mul_one, Nat.add_zero, Nat.zero_add]
    have hj : j < 7 := get_lt h1
    unfold World.cell?
    rw [hb]
    match j, hj with
    | 0, _ => rfl
    | 1, _ => rfl
    | 2, _ => rfl
    | 3, _ => rfl
    | 4, _ => rfl
    | 5, _ => rfl
    | 6, _ => rfl
  · obtain ⟨s, h1, rfl⟩ := key j e h
    simp only [List.getD_eq_getElem?_getD, h1, Option.getD_some]
    exact .str s

set_option maxHeartbeats 1000000 in
theorem bin0 (w : World) : Calls Try.prog 51 #[.string ⟨#[61, 61]⟩] w fun e w' => e = .returned (.tuple #[.int .i64 4, .int .i64 5, .int .i64 5, .int .u8 16]) ∧ Le [] w [] w' := by
  go_enter Try.func51, Try.ntmps51
  go_wp2_with (go_at_call 69; refine (index_calls rels0 ⟨#[61, 61]⟩ (by decide) 0 rfl (by decide) _ _ ?hv).mono ?_)
  case hv => exact rels_vp w _
  rintro e w' ⟨rfl, hle⟩
  go_wp2
  (try simp only [Exit.inBlock, Exit.then])
  refine bodyPost_ret (results_tmp4 rfl _ _ _) rfl ?_
  exact ⟨rfl, (le_allocB w _).trans hle⟩

set_option maxHeartbeats 1000000 in
theorem bin1 (w : World) : Calls Try.prog 51 #[.string ⟨#[33, 61]⟩] w fun e w' => e = .returned (.tuple #[.int .i64 4, .int .i64 5, .int .i64 5, .int .u8 17]) ∧ Le [] w [] w' := by
  go_enter Try.func51, Try.ntmps51
  go_wp2_with (go_at_call 69; refine (index_calls rels0 ⟨#[33, 61]⟩ (by decide) 1 rfl (by decide) _ _ ?hv).mono ?_)
  case hv => exact rels_vp w _
  rintro e w' ⟨rfl, hle⟩
  go_wp2
  (try simp only [Exit.inBlock, Exit.then])
  refine bodyPost_ret (results_tmp4 rfl _ _ _) rfl ?_
  exact ⟨rfl, (le_allocB w _).trans hle⟩

set_option maxHeartbeats 1000000 in
theorem bin2 (w : World) : Calls Try.prog 51 #[.string ⟨#[60]⟩] w fun e w' => e = .returned (.tuple #[.int .i64 4, .int .i64 5, .int .i64 5, .int .u8 18]) ∧ Le [] w [] w' := by
  go_enter Try.func51, Try.ntmps51
  go_wp2_with (go_at_call 69; refine (index_calls rels0 ⟨#[60]⟩ (by decide) 2 rfl (by decide) _ _ ?hv).mono ?_)
  case hv => exact rels_vp w _
  rintro e w' ⟨rfl, hle⟩
  go_wp2
  (try simp only [Exit.inBlock, Exit.then])
  refine bodyPost_ret (results_tmp4 rfl _ _ _) rfl ?_
  exact ⟨rfl, (le_allocB w _).trans hle⟩

set_option maxHeartbeats 1000000 in
theorem bin3 (w : World) : Calls Try.prog 51 #[.string ⟨#[62]⟩] w fun e w' => e = .returned (.tuple #[.int .i64 4, .int .i64 5, .int .i64 5, .int .u8 19]) ∧ Le [] w [] w' := by
  go_enter Try.func51, Try.ntmps51
  go_wp2_with (go_at_call 69; refine (index_calls rels0 ⟨#[62]⟩ (by decide) 3 rfl (by decide) _ _ ?hv).mono ?_)
  case hv => exact rels_vp w _
  rintro e w' ⟨rfl, hle⟩
  go_wp2
  (try simp only [Exit.inBlock, Exit.then])
  refine bodyPost_ret (results_tmp4 rfl _ _ _) rfl ?_
  exact ⟨rfl, (le_allocB w _).trans hle⟩

set_option maxHeartbeats 1000000 in
theorem bin4 (w : World) : Calls Try.prog 51 #[.string ⟨#[60, 61]⟩] w fun e w' => e = .returned (.tuple #[.int .i64 4, .int .i64 5, .int .i64 5, .int .u8 20]) ∧ Le [] w [] w' := by
  go_enter Try.func51, Try.ntmps51
  go_wp2_with (go_at_call 69; refine (index_calls rels0 ⟨#[60, 61]⟩ (by decide) 4 rfl (by decide) _ _ ?hv).mono ?_)
  case hv => exact rels_vp w _
  rintro e w' ⟨rfl, hle⟩
  go_wp2
  (try simp only [Exit.inBlock, Exit.then])
  refine bodyPost_ret (results_tmp4 rfl _ _ _) rfl ?_
  exact ⟨rfl, (le_allocB w _).trans hle⟩

set_option maxHeartbeats 1000000 in
theorem bin5 (w : World) : Calls Try.prog 51 #[.string ⟨#[62, 61]⟩] w fun e w' => e = .returned (.tuple #[.int .i64 4, .int .i64 5, .int .i64 5, .int .u8 21]) ∧ Le [] w [] w' := by
  go_enter Try.func51, Try.ntmps51
  go_wp2_with (go_at_call 69; refine (index_calls rels0 ⟨#[62, 61]⟩ (by decide) 5 rfl (by decide) _ _ ?hv).mono ?_)
  case hv => exact rels_vp w _
  rintro e w' ⟨rfl, hle⟩
  go_wp2
  (try simp only [Exit.inBlock, Exit.then])
  refine bodyPost_ret (results_tmp4 rfl _ _ _) rfl ?_
  exact ⟨rfl, (le_allocB w _).trans hle⟩

set_option maxHeartbeats 1000000 in
theorem bin6 (w : World) : Calls Try.prog 51 #[.string ⟨#[126, 61]⟩] w fun e w' => e = .returned (.tuple #[.int .i64 4, .int .i64 5, .int .i64 5, .int .u8 22]) ∧ Le [] w [] w' := by
  go_enter Try.func51, Try.ntmps51
  go_wp2_with (go_at_call 69; refine (index_calls rels0 ⟨#[126, 61]⟩ (by decide) 6 rfl (by decide) _ _ ?hv).mono ?_)
  case hv => exact rels_vp w _
  rintro e w' ⟨rfl, hle⟩
  go_wp2
  (try simp only [Exit.inBlock, Exit.then])
  refine bodyPost_ret (results_tmp4 rfl _ _ _) rfl ?_
  exact ⟨rfl, (le_allocB w _).trans hle⟩

end Go.Proofs.Ytemfnlidinnniaa.AD

namespace Go.Proofs.Ytemfnlidinnniaa.AD
open Go.Proofs
set_option linter.unusedVariables false
set_option linter.unusedSimpArgs false
set_option linter.unusedSectionVars false
set_option maxRecDepth 100000

theorem pureF_calls {P : Program} {f : Nat} {s : ByteArray} {v : Value} {r : PV} (h : ∀ w, Calls P f #[.string s] w fun e w' => e = .returned v ∧ Le [] w [] w') (hv : ∀ M w, VP M w v r) : pureF P f [.p (.str s)] (.p r) := fun H μ w xs hi hx => by
  have hxs : xs = #[.string s] := by
    have h1 : xs.size = 1 := hx.1
    have h2 := hx.2 0 xs[0] (.p (.str s)) (Array.getElem?_eq_getElem (by omega)) rfl
    apply Array.ext
    · simpa using h1
    · intro i hi1 hi2
      have : i = 0 := by simp at hi2; omega
      subst this
      rw [h2.str_inv]; rfl
  subst hxs
  refine (h w).mono fun e w' hw => ?_
  obtain ⟨rfl, hle⟩ := hw
  have hb : ∀ b, b < w.heap.size → w'.heap[b]? = w.heap[b]? := fun b hb => (hle.stays.2 b hb fun ⟨i, m, h, _⟩ => by simp at h).2
  exact ⟨v, .p r, H, μ, rfl, ⟨rfl, rfl⟩, hi.kept hle.stays.1 hb, .p _ _ (hv _ _), ⟨hle.os, hle.tape, hle.output, .refl _, ⟨hle.stays.1, fun b hb' hm => ⟨hm, hb b hb'⟩⟩⟩⟩

def eqL (s t : ByteArray) : Bool := s.data.toList == t.data.toList
theorem eqL_toList (s t : ByteArray) : (s.toList == t.toList) = eqL s t := by rw [ba_toList, ba_toList]; rfl
theorem eqL_eq {s t : ByteArray} (h : eqL s t = true) : s = t := by
  have : s.data.toList = t.data.toList := beq_iff_eq.1 h
  cases s; cases t
  simp at this
  rw [this]
def relIx (s : ByteArray) : Option Nat := rels0.findIdx? fun u => eqL s u
def binC (s : ByteArray) : Int × Int × Int × Int :=
  if eqL s ⟨#[124, 124]⟩ then (1, 1, 2, 24) else if eqL s ⟨#[38, 38]⟩ then (2, 2, 3, 23)
  else match relIx s with
    | some i => (4, 5, 5, 16 + (i : Int))
    | none => if eqL s ⟨#[43]⟩ then (5, 5, 6, 10) else if eqL s ⟨#[45]⟩ then (5, 5, 6, 11) else if eqL s ⟨#[46]⟩ then (5, 5, 6, 4)
      else if eqL s ⟨#[42]⟩ then (6, 6, 7, 12) else if eqL s ⟨#[47]⟩ then (6, 6, 7, 13) else if eqL s ⟨#[37]⟩ then (6, 6, 7, 14)
      else if eqL s ⟨#[94]⟩ then (8, 9, 7, 15) else (0, 0, 0, 0)
def binV (q : Int × Int × Int × Int) : PV := .tup [.int .i64 q.1, .int .i64 q.2.1, .int .i64 q.2.2.1, .int .u8 q.2.2.2]
theorem bin_vp (M : Nat → Prop) (w : World) (a b c d : Int) : VP M w (.tuple #[.int .i64 a, .int .i64 b, .int .i64 c, .int .u8 d]) (.tup [.int .i64 a, .int .i64 b, .int .i64 c, .int .u8 d]) :=
  .tup _ _ rfl fun j x c hx hc => by
    match j, hx, hc with
    | 0, hx, hc => simp at hx hc; subst hx; subst hc; exact .int _ _
    | 1, hx, hc => simp at hx hc; subst hx; subst hc; exact .int _ _
    | 2, hx, hc => simp at hx hc; subst hx; subst hc; exact .int _ _
    | 3, hx, hc => simp at hx hc; subst hx; subst hc; exact .int _ _

theorem binary_spec (s : ByteArray) : pureF Try.prog 51 [.p (.str s)] (.p (binV (binC s))) := by
  cases hr : relIx s with
  | some i =>
    have hl : i < 7 ∧ eqL s (rels0.getD i default) = true := by
      have := List.findIdx?_eq_some_iff_getElem.1 hr
      obtain ⟨h1, h2, _⟩ := this
      refine ⟨h1, ?_⟩
      rw [List.getD_eq_getElem?_getD, List.getElem?_eq_getElem h1]; exact h2
    obtain ⟨hi, he⟩ := hl
    have hs := eqL_eq he
    match i, hi, hs with
    | 0, _, hs => subst hs; exact pureF_calls bin0 fun M w => bin_vp M w _ _ _ _
    | 1, _, hs => subst hs; exact pureF_calls bin1 fun M w => bin_vp M w _ _ _ _
    | 2, _, hs => subst hs; exact pureF_calls bin2 fun M w => bin_vp M w _ _ _ _
    | 3, _, hs => subst hs; exact pureF_calls bin3 fun M w => bin_vp M w _ _ _ _
    | 4, _, hs => subst hs; exact pureF_calls bin4 fun M w => bin_vp M w _ _ _ _
    | 5, _, hs => subst hs; exact pureF_calls bin5 fun M w => bin_vp M w _ _ _ _
    | 6, _, hs => subst hs; exact pureF_calls bin6 fun M w => bin_vp M w _ _ _ _
  | none =>
    have hn : ∀ u, u ∈ rels0 → (s.toList == u.toList) = false := fun u hu => by
      have := List.findIdx?_eq_none_iff.1 hr u hu
      rw [eqL_toList]; exact this
    refine pureF_of f51_ok fun H => ?_
    unfold binC
    rw [hr]
    (conv => whnf)
    refine splitB_intro (fun h => ?_) (fun h => ?_)
    · rw [if_pos (by rw [← eqL_toList]; exact h)]
      (conv => whnf)
      exact ⟨rfl, rfl⟩
    rw [if_neg (by rw [← eqL_toList]; simp only [Bool.not_eq_true]; exact h)]
    (conv => whnf)
    refine splitB_intro (fun h => ?_) (fun h => ?_)
    · rw [if_pos (by rw [← eqL_toList]; exact h)]
      (conv => whnf)
      exact ⟨rfl, rfl⟩
    rw [if_neg (by rw [← eqL_toList]; simp only [Bool.not_eq_true]; exact h)]
    simp only
    have r0 := hn ⟨#[61, 61]⟩ (by simp [rels0])
    have r1 := hn ⟨#[33, 61]⟩ (by simp [rels0])
    have r2 := hn ⟨#[60]⟩ (by simp [rels0])
    have r3 := hn ⟨#[62]⟩ (by simp [rels0])
    have r4 := hn ⟨#[60, 61]⟩ (by simp [rels0])
    have r5 := hn ⟨#[62, 61]⟩ (by simp [rels0])
    have r6 := hn ⟨#[126, 61]⟩ (by simp [rels0])
    repeat' ((conv => whnf); first | refine splitB_f r0 ?_ | refine splitB_f r1 ?_ | refine splitB_f r2 ?_ | refine splitB_f r3 ?_ | refine splitB_f r4 ?_ | refine splitB_f r5 ?_ | refine splitB_f r6 ?_ | done)
    (conv => whnf)
    refine splitB_intro (fun h => ?_) (fun h => ?_)
    · rw [if_pos (by rw [← eqL_toList]; exact h)]
      (conv => whnf)
      exact ⟨rfl, rfl⟩
    rw [if_neg (by rw [← eqL_toList]; simp only [Bool.not_eq_true]; exact h)]
    (conv => whnf)
    refine splitB_intro (fun h => ?_) (fun h => ?_)
    · rw [if_pos (by rw [← eqL_toList]; exact h)]
      (conv => whnf)
      exact ⟨rfl, rfl⟩
    rw [if_neg (by rw [← eqL_toList]; simp only [Bool.not_eq_true]; exact h)]
    (conv => whnf)
    refine splitB_intro (fun h => ?_) (fun h => ?_)
    · rw [if_pos (by rw [← eqL_toList]; exact h)]
      (conv => whnf)
      exact ⟨rfl, rfl⟩
    rw [if_neg (by rw [← eqL_toList]; simp only [Bool.not_eq_true]; exact h)]
    (conv => whnf)
    refine splitB_intro (fun h => ?_) (fun h => ?_)
    · rw [if_pos (by rw [← eqL_toList]; exact h)]
      (conv => whnf)
      exact ⟨rfl, rfl⟩
    rw [if_neg (by rw [← eqL_toList]; simp only [Bool.not_eq_true]; exact h)]
    (conv => whnf)
    refine splitB_intro (fun h => ?_) (fun h => ?_)
    · rw [if_pos (by rw [← eqL_toList]; exact h)]
      (conv => whnf)
      exact ⟨rfl, rfl⟩
    rw [if_neg (by rw [← eqL_toList]; simp only [Bool.not_eq_true]; exact h)]
    (conv => whnf)
    refine splitB_intro (fun h => ?_) (fun h => ?_)
    · rw [if_pos (by rw [← eqL_toList]; exact h)]
      (conv => whnf)
      exact ⟨rfl, rfl⟩
    rw [if_neg (by rw [← eqL_toList]; simp only [Bool.not_eq_true]; exact h)]
    (conv => whnf)
    refine splitB_intro (fun h => ?_) (fun h => ?_)
    · rw [if_pos (by rw [← eqL_toList]; exact h)]
      (conv => whnf)
      exact ⟨rfl, rfl⟩
    rw [if_neg (by rw [← eqL_toList]; simp only [Bool.not_eq_true]; exact h)]
    (conv => whnf)
    exact ⟨rfl, rfl⟩

def unC (s : ByteArray) : Int × Int :=
  if eqL s ⟨#[33]⟩ then (3, 25) else if eqL s ⟨#[45]⟩ then (7, 9) else if eqL s ⟨#[64]⟩ then (9, 6) else if eqL s ⟨#[38]⟩ then (9, 8) else if eqL s ⟨#[36]⟩ then (9, 3) else (0, 0)
theorem unary_spec (s : ByteArray) : pureF Try.prog 44 [.p (.str s)] (.p (.tup [.int .i64 (unC s).1, .int .u8 (unC s).2])) := by
  refine pureF_of f44_ok fun H => ?_
  unfold unC
  (conv => whnf)
  refine splitB_intro (fun h => ?_) (fun h => ?_)
  · rw [if_pos (by rw [← eqL_toList]; exact h)]
    (conv => whnf)
    exact ⟨rfl, rfl⟩
  rw [if_neg (by rw [← eqL_toList]; simp only [Bool.not_eq_true]; exact h)]
  (conv => whnf)
  refine splitB_intro (fun h => ?_) (fun h => ?_)
  · rw [if_pos (by rw [← eqL_toList]; exact h)]
    (conv => whnf)
    exact ⟨rfl, rfl⟩
  rw [if_neg (by rw [← eqL_toList]; simp only [Bool.not_eq_true]; exact h)]
  (conv => whnf)
  refine splitB_intro (fun h => ?_) (fun h => ?_)
  · rw [if_pos (by rw [← eqL_toList]; exact h)]
    (conv => whnf)
    exact ⟨rfl, rfl⟩
  rw [if_neg (by rw [← eqL_toList]; simp only [Bool.not_eq_true]; exact h)]
  (conv => whnf)
  refine splitB_intro (fun h => ?_) (fun h => ?_)
  · rw [if_pos (by rw [← eqL_toList]; exact h)]
    (conv => whnf)
    exact ⟨rfl, rfl⟩
  rw [if_neg (by rw [← eqL_toList]; simp only [Bool.not_eq_true]; exact h)]
  (conv => whnf)
  refine splitB_intro (fun h => ?_) (fun h => ?_)
  · rw [if_pos (by rw [← eqL_toList]; exact h)]
    (conv => whnf)
    exact ⟨rfl, rfl⟩
  rw [if_neg (by rw [← eqL_toList]; simp only [Bool.not_eq_true]; exact h)]
  (conv => whnf)
  exact ⟨rfl, rfl⟩

end Go.Proofs.Ytemfnlidinnniaa.AD

namespace Go.Proofs.Ytemfnlidinnniaa.AD
open Go.Proofs
set_option linter.unusedVariables false
set_option linter.unusedSimpArgs false
set_option maxRecDepth 100000

def letterB (n : Int) : Bool := (decide (97 ≤ n) && decide (n ≤ 122)) || (decide (65 ≤ n) && decide (n ≤ 90)) || decide (n = 95)
def digitB (n : Int) : Bool := decide (48 ≤ n) && decide (n ≤ 57)

theorem letter_spec (n : Int) : pureF Try.prog 72 [.p (.int .u8 n)] (.p (.bool (letterB n))) := by
  refine pureF_of f72_ok fun H => ?_
  repeat' ((conv => whnf); (first | refine splitB_t rfl ?_ | refine splitB_f rfl ?_ | refine splitB_dec (fun h => ?_) (fun h => ?_) | refine splitB_eq (fun h => ?_) (fun h => ?_) | refine splitB_ne (fun h => ?_) (fun h => ?_) | refine splitB_intro (fun h => ?_) (fun h => ?_)))
  all_goals exact ⟨congrArg (fun b => AV.p (PV.bool b)) (by rw [Bool.eq_iff_iff]; simp [letterB] <;> omega), rfl⟩
theorem digit_spec (n : Int) : pureF Try.prog 75 [.p (.int .u8 n)] (.p (.bool (digitB n))) := by
  refine pureF_of f75_ok fun H => ?_
  repeat' ((conv => whnf); (first | refine splitB_t rfl ?_ | refine splitB_f rfl ?_ | refine splitB_dec (fun h => ?_) (fun h => ?_) | refine splitB_eq (fun h => ?_) (fun h => ?_) | refine splitB_ne (fun h => ?_) (fun h => ?_) | refine splitB_intro (fun h => ?_) (fun h => ?_)))
  all_goals exact ⟨congrArg (fun b => AV.p (PV.bool b)) (by rw [Bool.eq_iff_iff]; simp [digitB] <;> omega), rfl⟩

def arityI (op : Int) : Int :=
  if op = 1 ∨ op = 2 ∨ op = 5 ∨ op = 7 ∨ op = 26 ∨ op = 27 then 0
  else if op = 3 ∨ op = 6 ∨ op = 8 ∨ op = 9 ∨ op = 25 then 1
  else if 1 ≤ op ∧ op ≤ 27 then 2 else -1
theorem arity_spec (n : Int) (h0 : 0 ≤ n) : pureF Try.prog 58 [.p (.int .u8 n)] (.p (.int .i64 (arityI n))) := by
  refine pureF_of f58_ok fun H => ?_
  repeat' ((conv => whnf); (first | refine splitB_t rfl ?_ | refine splitB_f rfl ?_ | refine splitB_dec (fun h => ?_) (fun h => ?_) | refine splitB_eq (fun h => ?_) (fun h => ?_) | refine splitB_ne (fun h => ?_) (fun h => ?_) | refine splitB_intro (fun h => ?_) (fun h => ?_)))
  all_goals exact ⟨by simp_all [arityI] <;> omega, rfl⟩
end Go.Proofs.Ytemfnlidinnniaa.AD

namespace Go.Proofs.Ytemfnlidinnniaa.AD
open Go.Proofs
set_option linter.unusedVariables false
set_option linter.unusedSimpArgs false
set_option maxRecDepth 100000

def neS (s : ByteArray) : Bool := !(s.toList == (⟨#[]⟩ : ByteArray).toList)
def digitsB (s : ByteArray) : Bool := (s.data.toList.all fun c => digitB c.toNat) && neS s
def nameB (s : ByteArray) : Bool := (match s.data.toList with | [] => false | c :: r => letterB c.toNat && r.all fun c => letterB c.toNat || digitB c.toNat)

theorem sz_lt {s : ByteArray} {i : Nat} {r : List UInt8} {c : UInt8} (h : s.data.toList.drop i = c :: r) : i < s.size := by rw [ba_size]; exact (drop_cons h).2.2
theorem sz_le {s : ByteArray} {i : Nat} (h : s.data.toList.drop i = []) : s.size ≤ i := by rw [ba_size]; exact drop_nil h

theorem digits_spec (s : ByteArray) (hs : (s.size : Int) ≤ 9223372036854775807) : pureF Try.prog 60 [.p (.str s)] (.p (.bool (digitsB s))) := by
  refine pureF_of f60_ok fun H => ?_
  (conv => whnf)
  intro R hR
  have key : ∀ (rest : List UInt8) (i : Nat), s.data.toList.drop i = rest → ((rest.all fun c => digitB c.toNat) && neS s) = digitsB s → R [(0, .p (.str s)), (5, .p (.int .i64 s.size)), (6, .p (.int .i64 i))] H [] := by
    intro rest
    induction rest with
    | nil =>
      intro i hd hq
      have hl := sz_le hd
      refine hR _ _ _ ?_
      (conv => whnf)
      refine splitB_f (decide_eq_false (by omega)) ?_
      exact ⟨by rw [← hq]; rfl, rfl⟩
    | cons c r ih =>
      intro i hd hq
      obtain ⟨hg, hd', _⟩ := drop_cons hd
      have hl := sz_lt hd
      refine hR _ _ _ ?_
      (conv => whnf)
      refine splitB_t (decide_eq_true (by omega)) ?_
      (conv => whnf)
      refine ⟨c, ⟨by omega, hg⟩, ?_⟩
      (conv => whnf)
      have bad : digitB c.toNat = false → digitsB s = false := fun h => by rw [← hq, List.all_cons, h]; rfl
      refine splitB_dec (fun h => ?_) (fun h => ?_)
      · (conv => whnf)
        refine splitB_t rfl ?_
        exact ⟨by rw [bad (by simp [digitB]; omega)], rfl⟩
      · (conv => whnf)
        refine ⟨c, ⟨by omega, hg⟩, ?_⟩
        (conv => whnf)
        refine splitB_dec (fun h2 => ?_) (fun h2 => ?_)
        · exact ⟨by rw [bad (by simp [digitB]; omega)], rfl⟩
        · (conv => whnf)
          rw [IntWalk.i64_in _ (by omega)]
          refine ih (i + 1) hd' ?_
          rw [← hq, List.all_cons, show digitB c.toNat = true by simp [digitB]; omega, Bool.true_and]
  exact key _ 0 rfl rfl

theorem neS_iff (s : ByteArray) : neS s = !s.data.toList.isEmpty := by
  unfold neS
  rw [ba_toList, ba_toList]
  cases s.data.toList <;> rfl

/-! ### the program's own -/
theorem nameFn_spec (n : Int) : pureF Try.prog 80 [.p (.int .u8 n)] (.p (.bool (letterB n || digitB n))) := by
  refine pureF_of f80_ok fun H => ?_
  (conv => whnf)
  refine CallVC.pureF (letter_spec _) rfl ?_
  (conv => whnf)
  refine splitB_intro (fun h => ?_) (fun h => ?_)
  · exact ⟨by rw [h, Bool.true_or], rfl⟩
  · (conv => whnf)
    refine CallVC.pureF (digit_spec _) rfl ?_
    exact ⟨by rw [h, Bool.false_or], rfl⟩

/-- How far a text goes on with such bytes. -/
def whileL (p : UInt8 → Bool) : List UInt8 → Nat
  | [] => 0
  | c :: r => if p c then whileL p r + 1 else 0

theorem while_spec (s : ByteArray) (hs : (s.size : Int) ≤ 9223372036854775807) (f : Nat) (hf : enters Try.prog f = true) (p : UInt8 → Bool) (hp : ∀ c : UInt8, pureF Try.prog f [.p (.int .u8 c.toNat)] (.p (.bool (p c)))) (id : Nat) (more : List AV) (H : List Ob) (hH : H[id]? = some (.cells (.p (.str s) :: more))) (i : Nat) (hi : i ≤ s.size) :
    callA Try.prog 73 [.ref (.b id) 0, .p (.int .i64 i), .p (.fn (.func f))] H fun r H' => r = .p (.int .i64 (i + whileL p (s.data.toList.drop i) : Nat)) ∧ H' = H := by
  refine sound f73_ok ?_
  (conv => whnf)
  intro R hR
  have key : ∀ (rest : List UInt8) (j : Nat), s.data.toList.drop j = rest → j ≤ s.size → j + whileL p rest = i + whileL p (s.data.toList.drop i) → R [(0, .ref (.b id) 0), (1, .p (.int .i64 j)), (2, .p (.fn (.func f)))] H [] := by
    intro rest
    induction rest with
    | nil =>
      intro j hd hj hq
      have hl := sz_le hd
      refine hR _ _ _ ?_
      (conv => whnf)
      refine atK_in _ _ _ _ hH ?_
      (conv => whnf)
      refine splitB_f (decide_eq_false (by omega)) ?_
      (conv => whnf)
      exact ⟨by rw [← hq]; rfl, rfl⟩
    | cons c r ih =>
      intro j hd hj hq
      obtain ⟨hg, hd', _⟩ := drop_cons hd
      have hl := sz_lt hd
      refine hR _ _ _ ?_
      (conv => whnf)
      refine atK_in _ _ _ _ hH ?_
      (conv => whnf)
      refine splitB_t (decide_eq_true (by omega)) ?_
      (conv => whnf)
      refine atK_in _ _ _ _ hH ?_
      (conv => whnf)
      refine ⟨c, ⟨by omega, hg⟩, ?_⟩
      (conv => whnf)
      refine ⟨hf, ?_⟩
      refine CallVC.pureF (hp c) rfl ?_
      (conv => whnf)
      refine splitB_intro (fun h => ?_) (fun h => ?_)
      · (conv => whnf)
        rw [IntWalk.i64_in _ (by omega)]
        refine ih (j + 1) hd' (by omega) ?_
        rw [← hq, whileL, if_pos h]; omega
      · (conv => whnf)
        rw [whileL, h] at hq
        exact ⟨by rw [← hq]; rfl, rfl⟩
  exact key _ i rfl hi rfl

theorem whileL_all (p : UInt8 → Bool) : ∀ l : List UInt8, decide (whileL p l = l.length) = l.all p
  | [] => rfl
  | c :: r => by
    rw [whileL, List.all_cons]
    cases h : p c with
    | false => simp
    | true => rw [if_pos rfl, ← whileL_all p r]; simp

theorem Name_spec (s : ByteArray) (hs : (s.size : Int) ≤ 9223372036854775807) : pureF Try.prog 59 [.p (.str s)] (.p (.bool (nameB s))) := by
  refine pureF_of f59_ok fun H => ?_
  cases hd : s.data.toList with
  | nil =>
    have he : s.toList = (⟨#[]⟩ : ByteArray).toList := by rw [ba_ext, hd]
    (conv => whnf)
    refine splitB_t (by rw [he]; exact beq_self_eq_true _) ?_
    (conv => whnf)
    refine splitB_t rfl ?_
    exact ⟨by rw [nameB, hd], rfl⟩
  | cons c r =>
    have he : (s.toList == (⟨#[]⟩ : ByteArray).toList) = false := by rw [ba_toList, hd, ba_toList]; rfl
    have hl : s.size = r.length + 1 := by rw [ba_size, hd]; rfl
    have hq : nameB s = (letterB c.toNat && r.all fun c => letterB c.toNat || digitB c.toNat) := by rw [nameB, hd]
    (conv => whnf)
    refine splitB_f he ?_
    (conv => whnf)
    refine ⟨c, ⟨by omega, by rw [hd]; rfl⟩, ?_⟩
    (conv => whnf)
    refine CallVC.pureF (letter_spec _) rfl ?_
    (conv => whnf)
    refine splitB_intro (fun h => ?_) (fun h => ?_)
    · have h : letterB ↑c.toNat = false := by simpa using h
      exact ⟨by rw [hq, h, Bool.false_and], rfl⟩
    · have h : letterB ↑c.toNat = true := by simpa using h
      (conv => whnf)
      refine CallVC.pure (e := .int .i64 (1 + whileL (fun c => letterB c.toNat || digitB c.toNat) (s.data.toList.drop 1) : Nat)) (while_spec s hs 80 (by kernel_rfl) (fun c => letterB c.toNat || digitB c.toNat) (fun c => nameFn_spec _) H.length [.p (.int .i64 0)] _ ?_ 1 (by omega)) ?_
      · simp [flat, Ob.close, AV.closes, AV.close]
      · refine ⟨congrArg (fun b => AV.p (PV.bool b)) ?_, rfl⟩
        rw [hq, h, Bool.true_and, ← whileL_all, hd, List.drop_succ_cons, List.drop_zero, Bool.eq_iff_iff]
        simp
        omega

end Go.Proofs.Ytemfnlidinnniaa.AD

namespace Go.Proofs.Ytemfnlidinnniaa.AD
open Go.Proofs
set_option linter.unusedVariables false
set_option linter.unusedSimpArgs false
set_option maxRecDepth 100000

theorem ixs_ok (s : ByteArray) (c : UInt8) : XOk Try.prog 104 [.str s, .int .u8 c.toNat] (.int .i64 (Lib.indexByte s.data.toList c)) := by
  refine ⟨fun M w xs hl hx => ⟨.int .i64 (Lib.indexByte s.data.toList c), ?_, .int _ _⟩⟩
  have hl2 : xs.size = 2 := hl
  have h0 := hx 0 xs[0] _ (Array.getElem?_eq_getElem (by omega)) rfl
  have h1 := hx 1 xs[1] _ (Array.getElem?_eq_getElem (by omega)) rfl
  have he : xs = #[.string s, .int .u8 c.toNat] := by
    have e0 : xs[0] = .string s := by generalize xs[0] = x at h0; cases h0; rfl
    have e1 : xs[1] = .int .u8 c.toNat := by generalize xs[1] = x at h1; cases h1; rfl
    apply Array.ext
    · exact hl2
    · intro i h1 h2
      match i, h1, h2 with
      | 0, _, _ => exact e0
      | 1, _, _ => exact e1
  subst he
  rw [run_callFunc_extern Try.func104 (by kernel_rfl) (by kernel_rfl) (by kernel_rfl) (e := Extern.BytealgIndexByte.indexByte) (by kernel_rfl), Lib.run_indexByteString]
  simp [Result.andThen]

theorem IndexByte_spec (s : ByteArray) (c : UInt8) : pureF Try.prog 94 [.p (.str s), .p (.int .u8 c.toNat)] (.p (.int .i64 (Lib.indexByte s.data.toList c))) := by
  refine pureF_of f94_ok fun H => ?_
  (conv => whnf)
  exact ⟨_, ixs_ok s c, rfl, rfl⟩

theorem Index_spec (s : ByteArray) (c : UInt8) : pureF Try.prog 97 [.p (.str s), .p (.str ⟨#[c]⟩)] (.p (.int .i64 (Lib.indexByte s.data.toList c))) := by
  refine pureF_of f97_ok fun H => ?_
  (conv => whnf)
  refine splitB_f rfl ?_
  (conv => whnf)
  refine splitB_eq (fun h => ?_) (fun h => ?_)
  · have h2 : s.data.toList = [c] := by rw [← ba_toList, ← h, ba_toList]
    exact ⟨by rw [h2]; simp [Lib.indexByte], rfl⟩
  (conv => whnf)
  refine splitB_t rfl ?_
  (conv => whnf)
  refine ⟨c, ⟨by omega, rfl⟩, ?_⟩
  (conv => whnf)
  refine CallVC.pureF (IndexByte_spec s c) rfl ?_
  exact ⟨rfl, rfl⟩

/-- A text cut where a byte first stands. -/
def cutAt (s : ByteArray) (c : UInt8) : ByteArray × ByteArray × Bool :=
  if 0 ≤ Lib.indexByte s.data.toList c then (s.extract 0 (Lib.indexByte s.data.toList c).toNat, s.extract ((Lib.indexByte s.data.toList c) + 1).toNat s.size, true) else (s, ⟨#[]⟩, false)

theorem indexByte_range (c : UInt8) : ∀ l : List UInt8, -1 ≤ Lib.indexByte l c ∧ Lib.indexByte l c < l.length
  | [] => by simp [Lib.indexByte]
  | b :: l => by
    have := indexByte_range c l
    simp only [Lib.indexByte]
    split
    · simp
    · split
      · simp; omega
      · simp at *; omega

theorem liteCut_spec (s : ByteArray) (hs : (s.size : Int) ≤ 9223372036854775807) (c : UInt8) : pureF Try.prog 81 [.p (.str s), .p (.str ⟨#[c]⟩)] (.p (.tup [.str (cutAt s c).1, .str (cutAt s c).2.1, .bool (cutAt s c).2.2])) := by
  have hr := indexByte_range c s.data.toList
  rw [← ba_size] at hr
  refine pureF_of f81_ok fun H => ?_
  (conv => whnf)
  refine CallVC.pureF (Index_spec s c) rfl ?_
  generalize hj : Lib.indexByte s.data.toList c = j at hr
  have hc : cutAt s c = if 0 ≤ j then (s.extract 0 j.toNat, s.extract (j + 1).toNat s.size, true) else (s, ⟨#[]⟩, false) := by rw [cutAt, hj]
  (conv => whnf)
  refine splitB_dec (fun h => ?_) (fun h => ?_)
  · rw [if_pos (show 0 ≤ j by omega)] at hc
    (conv => whnf)
    refine ⟨⟨by omega, by omega⟩, ?_⟩
    (conv => whnf)
    rw [show ((({ data := #[c] } : ByteArray).size : Nat) : Int) = 1 from rfl, IntWalk.i64_in (j + 1) (by omega)]
    refine ⟨⟨by omega, by omega⟩, ?_⟩
    exact ⟨by rw [hc], rfl⟩
  · rw [if_neg (show ¬ 0 ≤ j by omega)] at hc
    exact ⟨by rw [hc], rfl⟩

theorem Cut_spec (s : ByteArray) (hs : (s.size : Int) ≤ 9223372036854775807) (c : UInt8) : pureF Try.prog 61 [.p (.str s), .p (.str ⟨#[c]⟩)] (.p (.tup [.str (cutAt s c).1, .str (cutAt s c).2.1, .bool (cutAt s c).2.2])) := by
  refine pureF_of f61_ok fun H => ?_
  (conv => whnf)
  refine CallVC.pureF (liteCut_spec s hs c) rfl ?_
  exact ⟨rfl, rfl⟩

/-! ### a number with a dot -/
def decB (s : ByteArray) : Bool := (cutAt s 46).2.2 && (digitsB (cutAt s 46).1 && digitsB (cutAt s 46).2.1)

theorem indexByte_at (c : UInt8) (l : List UInt8) : ∀ (r : List UInt8) (i : Nat), l.drop i = r → (∀ k, k < i → l[k]? ≠ some c) → Lib.indexByte l c = (if Lib.indexByte r c = -1 then -1 else Lib.indexByte r c + i) := by
  intro r i hd hn
  have main : ∀ (p r : List UInt8), (∀ k, k < p.length → p[k]? ≠ some c) → Lib.indexByte (p ++ r) c = (if Lib.indexByte r c = -1 then -1 else Lib.indexByte r c + p.length) := by
    intro p
    induction p with
    | nil => intro r _; simp
    | cons b p ih =>
      intro r h
      have hb : (b == c) = false := by
        have := h 0 (by simp)
        simpa using this
      have := ih r fun k hk => by have := h (k + 1) (by simp; omega); simpa using this
      have hrange := indexByte_range c r
      simp only [List.cons_append, Lib.indexByte, hb, this]
      by_cases h2 : Lib.indexByte r c = -1
      · simp [h2]
      · rw [if_neg h2]
        simp only [beq_iff_eq, Bool.false_eq_true, if_false, h2, List.length_cons]
        rw [if_neg (by omega)]
        omega
  by_cases hl : i ≤ l.length
  · have := main (l.take i) (l.drop i) fun k hk => by
      rw [List.getElem?_take, if_pos (by simp at hk; omega)]; exact hn k (by simp at hk; omega)
    rw [List.take_append_drop, hd] at this
    rw [this]
    simp [Nat.min_eq_left hl]
  · have hr : r = [] := by rw [← hd]; exact List.drop_eq_nil_iff.2 (by omega)
    have := main l [] fun k hk => hn k (by omega)
    rw [List.append_nil] at this
    rw [this, hr]; rfl

end Go.Proofs.Ytemfnlidinnniaa.AD

namespace Go.Proofs.Ytemfnlidinnniaa.AD
open Go.Proofs
set_option linter.unusedVariables false
set_option linter.unusedSimpArgs false
set_option maxRecDepth 100000

/-! ### texts as rows of bytes -/
def ofL (l : List UInt8) : ByteArray := ⟨l.toArray⟩
theorem ofL_data (l : List UInt8) : (ofL l).data.toList = l := by simp [ofL]
theorem ba_eq {a b : ByteArray} (h : a.data.toList = b.data.toList) : a = b := by
  cases a with | mk x => cases b with | mk y =>
    have : x = y := Array.ext' h
    subst this; rfl
theorem ofL_of (s : ByteArray) : ofL s.data.toList = s := ba_eq (ofL_data _)
theorem ext_data (s : ByteArray) (i j : Nat) : (s.extract i j).data.toList = (s.data.toList.take j).drop i := by
  rw [ByteArray.data_extract, Array.toList_extract, List.extract_eq_take_drop, List.drop_take]
theorem ext_tail (s : ByteArray) (i : Nat) : (s.extract i s.size).data.toList = s.data.toList.drop i := by
  rw [ext_data, List.take_of_length_le (by rw [← ba_size]; exact Nat.le_refl _)]
theorem ext_ofL (s : ByteArray) (i j : Nat) : s.extract i j = ofL ((s.data.toList.take j).drop i) := ba_eq (by rw [ext_data, ofL_data])
theorem ext_part (s : ByteArray) (i n : Nat) {l : List UInt8} (h : s.data.toList.drop i = l) : s.extract i (i + n) = ofL (l.take n) := by
  rw [ext_ofL, List.drop_take, ← h]; congr 2; omega
theorem get_of_drop {s : ByteArray} {i k : Nat} {l : List UInt8} {c : UInt8} (h : s.data.toList.drop i = l) (hc : l[k]? = some c) : s.data.toList[i + k]? = some c := by
  rw [← h, List.getElem?_drop] at hc; exact hc

/-! ### blanks -/
def skipF : Bool → List UInt8 → Nat
  | _, [] => 0
  | true, c :: r => if c = 10 then skipF false r + 1 else skipF true r + 1
  | false, c :: r => if c = 35 then skipF true r + 1 else if c = 32 ∨ c = 9 ∨ c = 13 ∨ c = 10 then skipF false r + 1 else 0

theorem skipF_le : ∀ (l : List UInt8) (b : Bool), skipF b l ≤ l.length
  | [], b => by cases b <;> simp [skipF]
  | c :: r, b => by
    have h1 := skipF_le r true
    have h2 := skipF_le r false
    cases b
    · simp only [skipF, List.length_cons]; split
      · omega
      · split <;> omega
    · simp only [skipF, List.length_cons]; split <;> omega

theorem u8_of {c : UInt8} (d : UInt8) {k : Int} (h : (c.toNat : Int) = k) (hk : (d.toNat : Int) = k) : c = d := UInt8.toNat_inj.1 (by omega)
theorem u8_ne {c : UInt8} (d : UInt8) {k : Int} (h : ¬ (c.toNat : Int) = k) (hk : (d.toNat : Int) = k) : c ≠ d := fun e => h (by rw [e, hk])

theorem skip_rem : ∀ r : List UInt8, (Lib.indexByte r 10 < 0 → skipF true r = r.length) ∧ (0 ≤ Lib.indexByte r 10 → skipF true r = (Lib.indexByte r 10).toNat + skipF false (r.drop (Lib.indexByte r 10).toNat))
  | [] => by simp [Lib.indexByte, skipF]
  | c :: r => by
    obtain ⟨h1, h2⟩ := skip_rem r
    have hr := indexByte_range 10 r
    by_cases hc : c = 10
    · subst hc
      have e : Lib.indexByte ((10 : UInt8) :: r) 10 = 0 := by simp [Lib.indexByte]
      rw [e]
      refine ⟨fun h => by omega, fun _ => ?_⟩
      simp [skipF]
    · have hb : (c == 10) = false := by simpa using hc
      by_cases hj : Lib.indexByte r 10 = -1
      · have e : Lib.indexByte (c :: r) 10 = -1 := by simp [Lib.indexByte, hb, hj]
        rw [e]
        refine ⟨fun _ => ?_, fun h => by omega⟩
        simp only [skipF, if_neg hc, List.length_cons]
        rw [h1 (by omega)]
      · have e : Lib.indexByte (c :: r) 10 = Lib.indexByte r 10 + 1 := by simp [Lib.indexByte, hb, hj]
        rw [e]
        refine ⟨fun h => by omega, fun _ => ?_⟩
        simp only [skipF, if_neg hc]
        rw [h2 (by omega), show (Lib.indexByte r 10 + 1).toNat = (Lib.indexByte r 10).toNat + 1 by omega, List.drop_succ_cons]
        omega

theorem strIndexByte_spec (s : ByteArray) (c : UInt8) : pureF Try.prog 71 [.p (.str s), .p (.int .u8 c.toNat)] (.p (.int .i64 (Lib.indexByte s.data.toList c))) := by
  refine pureF_of f71_ok fun H => ?_
  (conv => whnf)
  refine CallVC.pureF (IndexByte_spec s c) rfl ?_
  exact ⟨rfl, rfl⟩

/-- A scanner. -/
def scn (s : ByteArray) (p : Int) : List Ob := [.cells [.p (.str s), .p (.int .i64 p)]]

theorem skip_spec (s : ByteArray) (hs : s.size ≤ 65536) (p : Nat) (hp : p ≤ s.size) : Meth Try.prog 55 [.ref (.b 0) 0] (scn s p) (.tup []) (scn s (p + skipF false (s.data.toList.drop p) : Nat)) := by
  refine Meth.of f55_ok fun rest => ?_
  (conv => whnf)
  intro R hR
  have key : ∀ (n q : Nat), s.size - q ≤ n → q ≤ s.size → q + skipF false (s.data.toList.drop q) = p + skipF false (s.data.toList.drop p) → R [(0, .ref (.b 0) 0)] (scn s q ++ rest) [] := by
    intro n
    induction n with
    | zero =>
      intro q hn hq he
      have hd : s.data.toList.drop q = [] := List.drop_eq_nil_iff.2 (by rw [← ba_size]; omega)
      refine hR _ _ _ ?_
      (conv => whnf)
      refine splitB_f (decide_eq_false (by omega)) ?_
      (conv => whnf)
      rw [hd] at he
      simp only [skipF] at he
      rw [show ((q : Nat) : Int) = ((p + skipF false (s.data.toList.drop p) : Nat) : Int) by omega]
      exact ⟨rfl, rfl⟩
    | succ n ih =>
      intro q hn hq he
      refine hR _ _ _ ?_
      (conv => whnf)
      refine splitB_dec (fun h => ?_) (fun h => ?_)
      · cases hd : s.data.toList.drop q with
        | nil => have := sz_le hd; omega
        | cons c r =>
          obtain ⟨hg, hd', _⟩ := drop_cons hd
          rw [hd] at he
          (conv => whnf)
          refine ⟨c, ⟨by omega, hg⟩, ?_⟩
          (conv => whnf)
          refine splitB_eq (fun h2 => ?_) (fun h2 => ?_)
          · have hc : c = 35 := u8_of 35 h2 rfl
            subst hc
            have hext : (s.extract (Int.toNat q) s.size).data.toList = 35 :: r := by rw [ext_tail, Int.toNat_natCast, hd]
            have hix := strIndexByte_spec (s.extract (Int.toNat q) s.size) 10
            rw [hext] at hix
            have hlen : r.length + 1 = s.size - q := by
              have := congrArg List.length hd
              rw [List.length_drop, ← ba_size] at this
              simpa using this.symm
            have hix2 : Lib.indexByte ((35 : UInt8) :: r) 10 = if Lib.indexByte r 10 = -1 then -1 else Lib.indexByte r 10 + 1 := by
              simp [Lib.indexByte]
            obtain ⟨k1, k2⟩ := skip_rem r
            have hrange := indexByte_range 10 r
            have he0 : skipF false ((35 : UInt8) :: r) = skipF true r + 1 := by simp [skipF]
            rw [he0] at he
            (conv => whnf)
            refine ⟨⟨by omega, by omega⟩, ?_⟩
            (conv => whnf)
            refine CallD.pureF hix rfl ?_
            (conv => whnf)
            rw [hix2]
            by_cases hj : Lib.indexByte r 10 = -1
            · rw [if_pos hj]
              refine splitB_f rfl ?_
              (conv => whnf)
              refine ih s.size (by omega) (Nat.le_refl _) ?_
              rw [List.drop_eq_nil_iff.2 (by rw [← ba_size]; exact Nat.le_refl _), ← he, k1 (by omega)]
              simp only [skipF]
              omega
            · rw [if_neg hj]
              refine splitB_t (decide_eq_true (by omega)) ?_
              (conv => whnf)
              rw [IntWalk.i64_in _ (by omega)]
              have q2 := ih (q + ((Lib.indexByte r 10).toNat + 1)) (by omega) (by omega) (by
                rw [← he, k2 (by omega), ← List.drop_drop, hd, List.drop_succ_cons]
                omega)
              rw [show ((q + ((Lib.indexByte r 10).toNat + 1) : Nat) : Int) = (q : Int) + (Lib.indexByte r 10 + 1) by omega] at q2
              exact q2
          · have hc : c ≠ 35 := u8_ne 35 h2 rfl
            have blank : (c = 32 ∨ c = 9 ∨ c = 13 ∨ c = 10) → R [(0, .ref (.b 0) 0)] (scn s ((q : Int) + 1) ++ rest) [] := fun hb2 => by
              have q2 := ih (q + 1) (by omega) (by omega) (by
                rw [← he, hd', skipF, if_neg hc, if_pos hb2]
                omega)
              exact q2
            have stop : ¬ (c = 32 ∨ c = 9 ∨ c = 13 ∨ c = 10) → ((q : Nat) : Int) = ((p + skipF false (s.data.toList.drop p) : Nat) : Int) := fun hb => by
              rw [← he, skipF, if_neg hc, if_neg hb]; rfl
            (conv => whnf)
            refine splitB_eq (fun h3 => ?_) (fun h3 => ?_)
            · repeat' ((conv => whnf); first | refine splitB_t (beq_iff_eq.2 (by assumption)) ?_ | refine splitB_f (beq_eq_false_iff_ne.2 (by assumption)) ?_ | done)
              (conv => whnf)
              rw [IntWalk.i64_in _ (by omega)]
              exact blank (.inl (u8_of 32 h3 rfl))
            (conv => whnf)
            refine splitB_eq (fun h4 => ?_) (fun h4 => ?_)
            · repeat' ((conv => whnf); first | refine splitB_t (beq_iff_eq.2 (by assumption)) ?_ | refine splitB_f (beq_eq_false_iff_ne.2 (by assumption)) ?_ | done)
              (conv => whnf)
              rw [IntWalk.i64_in _ (by omega)]
              exact blank (.inr (.inl (u8_of 9 h4 rfl)))
            (conv => whnf)
            refine splitB_eq (fun h5 => ?_) (fun h5 => ?_)
            · repeat' ((conv => whnf); first | refine splitB_t (beq_iff_eq.2 (by assumption)) ?_ | refine splitB_f (beq_eq_false_iff_ne.2 (by assumption)) ?_ | done)
              (conv => whnf)
              rw [IntWalk.i64_in _ (by omega)]
              exact blank (.inr (.inr (.inl (u8_of 13 h5 rfl))))
            (conv => whnf)
            refine splitB_eq (fun h6 => ?_) (fun h6 => ?_)
            · repeat' ((conv => whnf); first | refine splitB_t (beq_iff_eq.2 (by assumption)) ?_ | refine splitB_f (beq_eq_false_iff_ne.2 (by assumption)) ?_ | done)
              (conv => whnf)
              rw [IntWalk.i64_in _ (by omega)]
              exact blank (.inr (.inr (.inr (u8_of 10 h6 rfl))))
            repeat' ((conv => whnf); first | refine splitB_t (beq_iff_eq.2 (by assumption)) ?_ | refine splitB_f (beq_eq_false_iff_ne.2 (by assumption)) ?_ | done)
            (conv => whnf)
            rw [stop (by rintro (e | e | e | e); exact u8_ne 32 h3 rfl e; exact u8_ne 9 h4 rfl e; exact u8_ne 13 h5 rfl e; exact u8_ne 10 h6 rfl e)]
            exact ⟨rfl, rfl⟩
      · have hd : s.data.toList.drop q = [] := List.drop_eq_nil_iff.2 (by rw [← ba_size]; omega)
        (conv => whnf)
        rw [hd] at he
        simp only [skipF] at he
        rw [show ((q : Nat) : Int) = ((p + skipF false (s.data.toList.drop p) : Nat) : Int) by omega]
        exact ⟨rfl, rfl⟩
  exact key _ p (Nat.le_refl _) hp rfl

end Go.Proofs.Ytemfnlidinnniaa.AD

namespace Go.Proofs.Ytemfnlidinnniaa.AD
open Go.Proofs
set_option linter.unusedVariables false
set_option linter.unusedSimpArgs false
set_option maxRecDepth 100000

def preB (p l : List UInt8) : Bool := decide (l.take p.length = p)

theorem litePrefix_spec (s p : ByteArray) : pureF Try.prog 106 [.p (.str s), .p (.str p)] (.p (.bool (preB p.data.toList s.data.toList))) := by
  refine pureF_of f106_ok fun H => ?_
  (conv => whnf)
  refine splitB_dec (fun h => ?_) (fun h => ?_)
  · (conv => whnf)
    refine ⟨⟨by omega, by omega⟩, ?_⟩
    (conv => whnf)
    refine ⟨congrArg (fun b => AV.p (PV.bool b)) ?_, rfl⟩
    rw [Bool.eq_iff_iff, beq_iff_eq, ba_ext, ext_data, preB, decide_eq_true_eq, List.drop_zero, Int.toNat_natCast, ba_size]
  · (conv => whnf)
    refine ⟨congrArg (fun b => AV.p (PV.bool b)) ?_, rfl⟩
    symm
    rw [preB, decide_eq_false_iff_not]
    intro e
    have := congrArg List.length e
    rw [List.length_take] at this
    rw [ba_size, ba_size] at h
    omega
theorem prefix_spec (s p : ByteArray) : pureF Try.prog 96 [.p (.str s), .p (.str p)] (.p (.bool (preB p.data.toList s.data.toList))) := by
  refine pureF_of f96_ok fun H => ?_
  (conv => whnf)
  refine CallVC.pureF (litePrefix_spec s p) rfl ?_
  exact ⟨rfl, rfl⟩

theorem preB_len {p l : List UInt8} (h : preB p l = true) : p.length ≤ l.length := by
  rw [preB, decide_eq_true_eq] at h
  have := congrArg List.length h
  rw [List.length_take] at this
  omega

def cutP (s p : ByteArray) : ByteArray × Bool := if preB p.data.toList s.data.toList then (ofL (s.data.toList.drop p.data.toList.length), true) else (s, false)
theorem liteCutPrefix_spec (s p : ByteArray) : pureF Try.prog 105 [.p (.str s), .p (.str p)] (.p (.tup [.str (cutP s p).1, .bool (cutP s p).2])) := by
  refine pureF_of f105_ok fun H => ?_
  (conv => whnf)
  refine CallVC.pureF (litePrefix_spec s p) rfl ?_
  (conv => whnf)
  cases hb : preB p.data.toList s.data.toList with
  | false =>
    refine splitB_t rfl ?_
    exact ⟨by rw [cutP, hb]; rfl, rfl⟩
  | true =>
    have hl := preB_len hb
    rw [← ba_size, ← ba_size] at hl
    refine splitB_f rfl ?_
    (conv => whnf)
    refine ⟨⟨by omega, by omega⟩, ?_⟩
    exact ⟨by rw [cutP, hb, Int.toNat_natCast, ext_ofL, List.take_of_length_le (by rw [← ba_size]; exact Nat.le_refl _), ba_size]; rfl, rfl⟩
theorem cutPrefix_spec (s p : ByteArray) : pureF Try.prog 95 [.p (.str s), .p (.str p)] (.p (.tup [.str (cutP s p).1, .bool (cutP s p).2])) := by
  refine pureF_of f95_ok fun H => ?_
  (conv => whnf)
  refine CallVC.pureF (liteCutPrefix_spec s p) rfl ?_
  exact ⟨rfl, rfl⟩

/-! ### signs -/
def twos : List ByteArray := [⟨#[45, 62]⟩, ⟨#[38, 38]⟩, ⟨#[124, 124]⟩, ⟨#[61, 61]⟩, ⟨#[33, 61]⟩, ⟨#[60, 61]⟩, ⟨#[62, 61]⟩, ⟨#[126, 61]⟩]
def ones : ByteArray := ⟨#[40, 41, 123, 125, 59, 33, 60, 62, 43, 45, 42, 47, 37, 94, 46, 36, 64, 38, 44, 61]⟩
def signL (l : List UInt8) : Nat :=
  if twos.any (fun p => preB p.data.toList l) then 2 else match l with
    | c :: _ => if 0 ≤ Lib.indexByte ones.data.toList c then 1 else 0
    | [] => 0

theorem sign_spec (s : ByteArray) (hs : s.size ≤ 65536) (p : Nat) (c : UInt8) (r : List UInt8) (hd : s.data.toList.drop p = c :: r) : Meth Try.prog 78 [.ref (.b 0) 0] (scn s p) (.int .i64 (signL (c :: r))) (scn s p) := by
  refine Meth.of f78_ok fun rest => ?_
  have hl := sz_lt hd
  have hext : (s.extract (Int.toNat p) s.size).data.toList = c :: r := by rw [ext_tail, Int.toNat_natCast, hd]
  (conv => whnf)
  refine ⟨⟨by omega, by omega⟩, ?_⟩
  generalize s.extract (Int.toNat p) s.size = t at hext ⊢
  (conv => whnf)
  intro R hR
  have key : ∀ (tw : List ByteArray) (i : Nat), twos.drop i = tw → (twos.any fun p => preB p.data.toList (c :: r)) = (tw.any fun p => preB p.data.toList (c :: r)) → R [(3, .p (.str t)), (15, .p (.agg (twos.map PV.str))), (16, .p (.int .i64 i))] (scn s p ++ rest) [] := by
    intro tw
    induction tw with
    | nil =>
      intro i hi ha
      have hlen := drop_nil hi
      have h8 : twos.length = 8 := rfl
      refine hR _ _ _ ?_
      (conv => whnf)
      refine splitB_f (decide_eq_false (by omega)) ?_
      (conv => whnf)
      refine ⟨c, ⟨by omega, by rw [hext]; rfl⟩, ?_⟩
      (conv => whnf)
      refine CallVC.pureF (strIndexByte_spec ones c) rfl ?_
      (conv => whnf)
      have hdef : signL (c :: r) = if 0 ≤ Lib.indexByte ones.data.toList c then 1 else 0 := by
        rw [signL, ha]; rfl
      refine splitB_dec (fun h => ?_) (fun h => ?_)
      · exact ⟨by rw [hdef, if_pos h]; rfl, rfl⟩
      · exact ⟨by rw [hdef, if_neg h]; rfl, rfl⟩
    | cons b tw ih =>
      intro i hi ha
      obtain ⟨hg, hi', hlt⟩ := drop_cons hi
      have h8 : twos.length = 8 := rfl
      refine hR _ _ _ ?_
      (conv => whnf)
      refine splitB_t (decide_eq_true (by omega)) ?_
      (conv => whnf)
      refine ⟨⟨by omega, by omega⟩, .str b, by rw [Int.toNat_natCast, Nat.mul_one, List.getElem?_map, hg]; rfl, ?_⟩
      (conv => whnf)
      refine CallVC.pureF (prefix_spec t b) rfl ?_
      (conv => whnf)
      rw [hext]
      rw [List.any_cons] at ha
      cases hb : preB b.data.toList (c :: r) with
      | true =>
        rw [hb] at ha
        refine splitB_t rfl ?_
        exact ⟨by rw [signL, ha]; rfl, rfl⟩
      | false =>
        rw [hb, Bool.false_or] at ha
        refine splitB_f rfl ?_
        (conv => whnf)
        rw [IntWalk.i64_in _ (by omega)]
        exact ih (i + 1) hi' ha
  exact key twos 0 rfl rfl

end Go.Proofs.Ytemfnlidinnniaa.AD

namespace Go.Proofs.Ytemfnlidinnniaa.AD
open Go.Proofs
set_option linter.unusedVariables false
set_option linter.unusedSimpArgs false
set_option maxRecDepth 100000

abbrev dig (c : UInt8) : Bool := digitB c.toNat
abbrev lett (c : UInt8) : Bool := letterB c.toNat
abbrev nam (c : UInt8) : Bool := letterB c.toNat || digitB c.toNat
def tokP (k : Int) (t : ByteArray) (a e : Int) : PV := .agg [.int .u8 k, .str t, .int .i64 a, .int .i64 e]

theorem whileL_le (p : UInt8 → Bool) : ∀ l, whileL p l ≤ l.length
  | [] => Nat.le_refl _
  | c :: r => by
    have := whileL_le p r
    simp only [whileL, List.length_cons]
    split <;> omega

theorem nextFn_spec (n : Int) : pureF Try.prog 74 [.p (.int .u8 n)] (.p (.bool (letterB n || digitB n))) := by
  refine pureF_of f74_ok fun H => ?_
  (conv => whnf)
  refine CallVC.pureF (letter_spec _) rfl ?_
  (conv => whnf)
  refine splitB_intro (fun h => ?_) (fun h => ?_)
  · exact ⟨by rw [h, Bool.true_or], rfl⟩
  · (conv => whnf)
    refine CallVC.pureF (digit_spec _) rfl ?_
    exact ⟨by rw [h, Bool.false_or], rfl⟩

theorem while_at (s : ByteArray) (hs : s.size ≤ 65536) (f : Nat) (hf : enters Try.prog f = true) (p : UInt8 → Bool) (hp : ∀ c : UInt8, pureF Try.prog f [.p (.int .u8 c.toNat)] (.p (.bool (p c)))) (q : Int) (rest lo : List Ob) (i : Nat) (hi : i ≤ s.size) {K : AV → List Ob → List Ob → Prop}
    (k : K (.p (.int .i64 (i + whileL p (s.data.toList.drop i) : Nat))) (scn s q ++ rest) lo) : CallVC Try.prog 73 [.ref (.b 0) 0, .p (.int .i64 i), .p (.fn (.func f))] (scn s q ++ rest) lo K :=
  CallVC.pure (while_spec s (by omega) f hf p hp 0 [.p (.int .i64 q)] _ rfl i hi) k

def ofS : List UInt8 := [45, 111, 102]
/-- What stands behind a number: is it '-of', and no name goes on? -/
def ofB (l : List UInt8) : Bool := preB ofS l && (match l.drop 3 with | [] => true | a :: _ => !lett a && !dig a)
def numL (l : List UInt8) : Int × Nat × Nat :=
  match l.drop (whileL dig l) with
  | c :: d :: _ => if c = 46 ∧ dig d = true then (3, whileL dig l + 1 + whileL dig (l.drop (whileL dig l + 1)), whileL dig l + 1 + whileL dig (l.drop (whileL dig l + 1))) else if ofB (l.drop (whileL dig l)) = true then (5, whileL dig l, whileL dig l + 3) else (2, whileL dig l, whileL dig l)
  | _ => (2, whileL dig l, whileL dig l)

theorem number_spec (s : ByteArray) (hs : s.size ≤ 65536) (p : Nat) (l : List UInt8) (hp : p ≤ s.size) (hd : s.data.toList.drop p = l) :
    Meth Try.prog 76 [.ref (.b 0) 0] (scn s p) (tokP (numL l).1 (ofL (l.take (numL l).2.1)) p (p + (numL l).2.2 : Nat)) (scn s p) := by
  refine Meth.of f76_ok fun rest => ?_
  have hlen : l.length = s.size - p := by rw [← hd, List.length_drop, ba_size]
  have hw := whileL_le dig l
  (conv => whnf)
  refine while_at s hs _ (by kernel_rfl) dig (fun c => digit_spec _) p rest _ p hp ?_
  rw [hd]
  generalize hn : whileL dig l = n at hw
  have hd2 : s.data.toList.drop (p + n) = l.drop n := by rw [← List.drop_drop, hd]
  (conv => whnf)
  refine ⟨⟨by omega, by omega⟩, ?_⟩
  have hext : (s.extract (Int.toNat ((p + n : Nat) : Int)) s.size).data.toList = l.drop n := by rw [ext_tail, Int.toNat_natCast, hd2]
  have hsz : (s.extract (Int.toNat ((p + n : Nat) : Int)) s.size).size = l.length - n := by rw [ba_size, hext, List.length_drop]
  generalize s.extract (Int.toNat ((p + n : Nat) : Int)) s.size = t at hext hsz ⊢
  have cut1 : ∀ e : Nat, p + e ≤ s.size → s.extract (Int.toNat (p : Int)) (Int.toNat ((p + e : Nat) : Int)) = ofL (l.take e) := fun e he => by
    rw [Int.toNat_natCast, Int.toNat_natCast]; exact ext_part s p e hd
  have tailW : ∀ (a : Int × Nat × Nat), a = (if ofB (l.drop n) = true then (5, n, n + 3) else (2, n, n)) → W Try.prog f76.c18 [(0, .ref (.b 0) 0), (2, .ref (.l 0) 0), (3, .p (.int .i64 (p + n : Nat))), (4, .p (.str t))] (scn s p ++ rest) [.cells [.p (.int .u8 0), .p (.str ⟨#[]⟩), .p (.int .i64 0), .p (.int .i64 0)]]
      (endQ f76 fun r' H' => r' = .p (tokP a.1 (ofL (l.take a.2.1)) p (p + a.2.2 : Nat)) ∧ H' = scn s p ++ rest) := by
    intro a ha
    (conv => whnf)
    refine CallVC.pureF (cutPrefix_spec t ⟨#[45, 111, 102]⟩) rfl ?_
    have hcp : cutP t ⟨#[45, 111, 102]⟩ = if preB ofS (l.drop n) then (ofL ((l.drop n).drop 3), true) else (t, false) := by
      rw [cutP, hext]; rfl
    have plain : a = (2, n, n) → W Try.prog f76.c17 [(0, .ref (.b 0) 0), (2, .ref (.l 0) 0), (3, .p (.int .i64 (p + n : Nat)))] (scn s p ++ rest) [.cells [.p (.int .u8 0), .p (.str ⟨#[]⟩), .p (.int .i64 0), .p (.int .i64 0)]]
        (endQ f76 fun r' H' => r' = .p (tokP a.1 (ofL (l.take a.2.1)) p (p + a.2.2 : Nat)) ∧ H' = scn s p ++ rest) := by
      rintro rfl
      (conv => whnf)
      refine ⟨⟨by omega, by omega, by omega⟩, ?_⟩
      (conv => whnf)
      rw [cut1 n (by omega)]
      exact ⟨rfl, rfl⟩
    have isof : a = (5, n, n + 3) → p + n + 3 ≤ s.size → W Try.prog f76.c12 [(0, .ref (.b 0) 0), (2, .ref (.l 0) 0), (3, .p (.int .i64 (p + n : Nat))), (73, .p (.bool true))] (scn s p ++ rest) [.cells [.p (.int .u8 0), .p (.str ⟨#[]⟩), .p (.int .i64 0), .p (.int .i64 0)]]
        (endQ f76 fun r' H' => r' = .p (tokP a.1 (ofL (l.take a.2.1)) p (p + a.2.2 : Nat)) ∧ H' = scn s p ++ rest) := by
      rintro rfl hle
      (conv => whnf)
      refine ⟨⟨by omega, by omega, by omega⟩, ?_⟩
      (conv => whnf)
      rw [cut1 n (by omega), IntWalk.i64_in _ (by omega)]
      exact ⟨rfl, rfl⟩
    rw [hcp]
    cases hb : preB ofS (l.drop n) with
    | false =>
      have ho : ofB (l.drop n) = false := by rw [ofB, hb, Bool.false_and]
      rw [ho] at ha
      (conv => whnf)
      refine splitB_f rfl ?_
      (conv => whnf)
      refine splitB_f rfl ?_
      have q := plain ha
      (conv at q => whnf)
      (conv => whnf)
      exact q
    | true =>
      rw [if_pos rfl]
      have h3 := preB_len hb
      have h3' : 3 ≤ l.length - n := by rw [List.length_drop] at h3; exact h3
      (conv => whnf)
      refine splitB_t rfl ?_
      (conv => whnf)
      cases hm : (l.drop n).drop 3 with
      | nil =>
        have ho : ofB (l.drop n) = true := by rw [ofB, hb, hm]; rfl
        rw [ho] at ha
        refine splitB_t (by rw [beq_iff_eq, ba_ext, ofL_data]) ?_
        (conv => whnf)
        refine splitB_t rfl ?_
        have q := isof ha (by omega)
        (conv at q => whnf)
        (conv => whnf)
        exact q
      | cons c r =>
        refine splitB_f (by rw [beq_eq_false_iff_ne]; intro e; rw [ba_ext, ofL_data] at e; cases e) ?_
        (conv => whnf)
        refine ⟨c, ⟨by omega, by rw [ofL_data]; rfl⟩, ?_⟩
        (conv => whnf)
        refine CallVC.pureF (letter_spec _) rfl ?_
        (conv => whnf)
        cases hlc : letterB c.toNat with
        | true =>
          have ho : ofB (l.drop n) = false := by rw [ofB, hb, hm]; simp [lett, hlc]
          rw [ho] at ha
          refine splitB_f rfl ?_
          (conv => whnf)
          refine splitB_f rfl ?_
          have q := plain ha
          (conv at q => whnf)
          (conv => whnf)
          exact q
        | false =>
          refine splitB_t rfl ?_
          (conv => whnf)
          refine ⟨c, ⟨by omega, by rw [ofL_data]; rfl⟩, ?_⟩
          (conv => whnf)
          refine CallVC.pureF (digit_spec _) rfl ?_
          (conv => whnf)
          cases hdc : digitB c.toNat with
          | true =>
            have ho : ofB (l.drop n) = false := by rw [ofB, hb, hm]; simp [lett, dig, hlc, hdc]
            rw [ho] at ha
            refine splitB_f rfl ?_
            have q := plain ha
            (conv at q => whnf)
            (conv => whnf)
            exact q
          | false =>
            have ho : ofB (l.drop n) = true := by rw [ofB, hb, hm]; simp [lett, dig, hlc, hdc]
            rw [ho] at ha
            refine splitB_t rfl ?_
            have q := isof ha (by omega)
            (conv at q => whnf)
            (conv => whnf)
            exact q
  have hnum : ∀ m, l.drop n = m → numL l = match m with
      | c :: d :: _ => if c = 46 ∧ dig d = true then (3, n + 1 + whileL dig (l.drop (n + 1)), n + 1 + whileL dig (l.drop (n + 1))) else if ofB (l.drop n) = true then (5, n, n + 3) else (2, n, n)
      | _ => (2, n, n) := fun m hm => by
    unfold numL
    rw [hn, hm]
  have short : (l.drop n).length ≤ 1 → ofB (l.drop n) = false := fun h => by
    cases hb : preB ofS (l.drop n) with
    | false => rw [ofB, hb, Bool.false_and]
    | true => have := preB_len hb; have : ofS.length = 3 := rfl; omega
  (conv => whnf)
  cases hm : l.drop n with
  | nil =>
    rw [hm] at short hext
    have hl0 : l.length - n = 0 := by rw [← List.length_drop, hm]; rfl
    refine splitB_f (decide_eq_false (by omega)) ?_
    (conv => whnf)
    refine splitB_f rfl ?_
    (conv => whnf)
    refine splitB_f rfl ?_
    have q := tailW (numL l) (by rw [hnum _ hm, hm, short (by simp)]; rfl)
    (conv at q => whnf)
    (conv => whnf)
    exact q
  | cons c m =>
    cases m with
    | nil =>
      rw [hm] at short hext
      have hl0 : l.length - n = 1 := by rw [← List.length_drop, hm]; rfl
      refine splitB_f (decide_eq_false (by omega)) ?_
      (conv => whnf)
      refine splitB_f rfl ?_
      (conv => whnf)
      refine splitB_f rfl ?_
      have q := tailW (numL l) (by rw [hnum _ hm, hm, short (by simp)]; rfl)
      (conv at q => whnf)
      (conv => whnf)
      exact q
    | cons d m =>
      have hl2 : l.length - n = m.length + 2 := by rw [← List.length_drop, hm]; rfl
      have hnum2 := hnum _ hm
      simp only at hnum2
      refine splitB_t (decide_eq_true (by omega)) ?_
      (conv => whnf)
      refine ⟨c, ⟨by omega, by rw [hext, hm]; rfl⟩, ?_⟩
      (conv => whnf)
      refine splitB_eq (fun h1 => ?_) (fun h1 => ?_)
      · have hc : c = 46 := u8_of 46 h1 rfl
        (conv => whnf)
        refine ⟨d, ⟨by omega, by rw [hext, hm]; rfl⟩, ?_⟩
        (conv => whnf)
        refine CallVC.pureF (digit_spec _) rfl ?_
        (conv => whnf)
        cases hdd : digitB d.toNat with
        | true =>
          rw [if_pos ⟨hc, hdd⟩] at hnum2
          refine splitB_t rfl ?_
          (conv => whnf)
          rw [IntWalk.i64_in _ (by omega)]
          refine while_at s hs _ (by kernel_rfl) dig (fun c => digit_spec _) p rest _ (p + n + 1) (by omega) ?_
          have hd3 : s.data.toList.drop (p + n + 1) = l.drop (n + 1) := by rw [Nat.add_assoc, ← List.drop_drop, hd]
          rw [hd3]
          have hw2 := whileL_le dig (l.drop (n + 1))
          rw [List.length_drop] at hw2
          generalize whileL dig (l.drop (n + 1)) = k at hw2 hnum2 ⊢
          (conv => whnf)
          refine ⟨⟨by omega, by omega, by omega⟩, ?_⟩
          (conv => whnf)
          rw [hnum2, show p + n + 1 + k = p + (n + 1 + k) by omega, cut1 (n + 1 + k) (by omega)]
          exact ⟨rfl, rfl⟩
        | false =>
          rw [if_neg (by rintro ⟨_, h⟩; rw [show dig d = digitB d.toNat from rfl, hdd] at h; cases h)] at hnum2
          refine splitB_f rfl ?_
          have q := tailW (numL l) hnum2
          (conv at q => whnf)
          (conv => whnf)
          exact q
      · have hc : c ≠ 46 := u8_ne 46 h1 rfl
        rw [if_neg (fun h => hc h.1)] at hnum2
        (conv => whnf)
        refine splitB_f rfl ?_
        have q := tailW (numL l) hnum2
        (conv at q => whnf)
        (conv => whnf)
        exact q

end Go.Proofs.Ytemfnlidinnniaa.AD

namespace Go.Proofs.Ytemfnlidinnniaa.AD
open Go.Proofs
set_option linter.unusedVariables false
set_option linter.unusedSimpArgs false
set_option maxRecDepth 100000

/-- What is read: a token (its kind, its text, how long it is), or what is wrong, and where. -/
inductive NR where
  | tok (k : Int) (t : ByteArray) (len : Nat)
  | err (o : Nat) (e : Int)
/-- What stands behind a backslash. -/
inductive PR where
  | ok (bs : List UInt8) (n : Nat)
  | cut
  | bad

def oct (c : UInt8) : Bool := decide (48 ≤ c.toNat) && decide (c.toNat ≤ 55)
def spc (c : UInt8) : Bool := decide (c = 32) || (decide (c = 9) || decide (c = 13))
def octV (c : UInt8) : Nat := c.toNat - 48
/-- So many octal digits more, behind those that make v. -/
def digF : Nat → Nat → List UInt8 → PR
  | 0, v, _ => if 255 < v then .bad else .ok [UInt8.ofNat v] 3
  | m + 1, v, [] => .cut
  | m + 1, v, c :: r => if oct c = false then .bad else digF m (v * 8 + octV c) r
def pieceP : List UInt8 → PR
  | [] => .cut
  | c :: r => if c = 34 ∨ c = 92 then .ok [c] 1 else if c = 110 then .ok [10] 1 else if c = 116 then .ok [9] 1 else if c = 114 then .ok [13] 1 else if c = 10 then .ok [] (1 + whileL spc r) else digF 3 0 (c :: r)

/-- The rest of a string, from a place on. -/
def strP (f : Nat) (l : List UInt8) (i : Nat) (b : List UInt8) : NR :=
  match f with
  | 0 => .err 0 141
  | f + 1 => match l with
    | [] => .err 0 141
    | c :: r => if c = 10 then .err 0 141 else if c = 34 then .tok 4 (ofL b) (i + 1) else if c = 92 then (match pieceP r with
        | .ok bs n => strP f (r.drop n) (i + 1 + n) (b ++ bs)
        | .cut => .err 0 141
        | .bad => .err i 142) else strP f r (i + 1) (b ++ [c])

/-- More fuel than bytes changes nothing. -/
theorem strP_fuel : ∀ (f g : Nat) (l : List UInt8) (i : Nat) (b : List UInt8), l.length < f → l.length < g → strP f l i b = strP g l i b
  | 0, g, l, i, b, h, _ => absurd h (by omega)
  | f + 1, 0, l, i, b, _, h => absurd h (by omega)
  | f + 1, g + 1, [], i, b, _, _ => rfl
  | f + 1, g + 1, c :: r, i, b, h1, h2 => by
    simp only [List.length_cons] at h1 h2
    simp only [strP]
    split
    · rfl
    · split
      · rfl
      · split
        · split
          · rename_i bs n hp
            have hl : (r.drop n).length ≤ r.length := by rw [List.length_drop]; omega
            exact strP_fuel f g _ _ _ (by omega) (by omega)
          · rfl
          · rfl
        · exact strP_fuel f g r _ _ (by omega) (by omega)

def zeroTok : PV := .agg [.int .u8 0, .str ⟨#[]⟩, .int .i64 0, .int .i64 0]
def resN (p : Nat) : NR → PV
  | .tok k t len => .tup [tokP k t p (p + len : Nat), .int .i64 0, .int .i64 0]
  | .err o e => .tup [zeroTok, .int .i64 (p + o : Nat), .int .i64 e]

def bsP (b : List UInt8) : List PV := b.map fun c => .int .u8 c.toNat
theorem bsP_bytes : ∀ b : List UInt8, intBytes (bsP b) = some b
  | [] => rfl
  | c :: r => by simp [bsP, intBytes]; exact bsP_bytes r
theorem ofBytes_ofL (b : List UInt8) : (⟨b.toArray⟩ : ByteArray) = ofL b := rfl

end Go.Proofs.Ytemfnlidinnniaa.AD

namespace Go.Proofs.Ytemfnlidinnniaa.AD
open Go.Proofs
set_option linter.unusedVariables false
set_option linter.unusedSimpArgs false
set_option maxRecDepth 100000

theorem or8 (v d : Nat) (hv : v < 512) (hd : d < 8) : IntKind.i64.wrap (BitVec.ofInt IntKind.i64.bits (IntKind.i64.wrap ((v : Int) * 2 ^ (min (Int.toNat 3) IntKind.i64.bits))) ||| BitVec.ofInt IntKind.i64.bits ((d : Nat) : Int)).toNat = ((v * 8 + d : Nat) : Int) := by
  have e1 : ((v : Int) * 2 ^ (min (Int.toNat 3) IntKind.i64.bits)) = ((v * 8 : Nat) : Int) := by
    have : min (Int.toNat 3) IntKind.i64.bits = 3 := by decide
    rw [this]; push_cast; rfl
  rw [e1, IntWalk.i64_in ((v * 8 : Nat) : Int) (by omega)]
  have e2 : (BitVec.ofInt IntKind.i64.bits ((v * 8 : Nat) : Int) ||| BitVec.ofInt IntKind.i64.bits ((d : Nat) : Int)).toNat = v * 8 + d := by
    rw [BitVec.toNat_or]
    simp only [BitVec.ofInt_natCast, BitVec.toNat_ofNat, IntKind.bits]
    rw [Nat.mod_eq_of_lt (by omega), Nat.mod_eq_of_lt (by omega), Nat.mul_comm v]
    have := Nat.two_pow_add_eq_or_of_lt (i := 3) (b := d) (by omega) v
    rw [show (2 : Nat) ^ 3 = 8 by rfl] at this
    exact this.symm
  rw [e2]
  exact IntWalk.i64_in _ (by omega)

theorem wrap8' (u : Int) : IntKind.u8.wrap u = u % 256 := by simp [IntKind.wrap, IntKind.bits, IntKind.signed]
theorem octV_lt {c : UInt8} (h : oct c = true) : 48 ≤ c.toNat ∧ octV c < 8 ∧ IntKind.i64.wrap (IntKind.u8.wrap ((c.toNat : Int) - 48)) = ((octV c : Nat) : Int) := by
  simp only [oct, Bool.and_eq_true, decide_eq_true_eq] at h
  have h1 : octV c = c.toNat - 48 := rfl
  refine ⟨h.1, by omega, ?_⟩
  rw [wrap8', h1, IntWalk.i64_in _ (by omega)]
  omega

def strO (g : Nat) (b : List UInt8) : List Ob := [.cells [.p (.int .u8 0), .p (.str ⟨#[]⟩), .p (.int .i64 0), .p (.int .i64 0)], .buf g 1 (bsP b)]

set_option maxHeartbeats 400000 in
theorem str_spec (s : ByteArray) (hs : s.size ≤ 65536) (p : Nat) (r : List UInt8) (hd : s.data.toList.drop p = 34 :: r) : Meth Try.prog 77 [.ref (.b 0) 0] (scn s p) (resN p (strP (r.length + 1) r 1 [])) (scn s p) := by
  refine Meth.of f77_ok fun rest => ?_
  have hlen : r.length + 1 = s.size - p := by
    have := congrArg List.length hd
    rw [List.length_drop, ← ba_size] at this
    simpa using this.symm
  have hps := sz_lt hd
  generalize hZ : strP (r.length + 1) r 1 [] = Z
  generalize hl : (34 : UInt8) :: r = l at hd
  have hll : l.length = s.size - p := by rw [← hl]; simpa using hlen
  have hdi : ∀ i t, l.drop i = t → s.data.toList.drop (p + i) = t := fun i t h => by rw [← List.drop_drop, hd, h]
  (conv => whnf)
  intro R
  (conv => whnf)
  intro h0
  (conv => whnf)
  intro h1
  (conv => whnf)
  intro h2
  (conv => whnf)
  intro h3
  have key : ∀ (n i g : Nat) (b : List UInt8), l.length - i < n → i ≤ l.length → b.length ≤ i → strP n (l.drop i) i b = Z →
      W Try.prog f77.c103 [(0, .ref (.b 0) 0), (2, .ref (.l 0) 0), (5, .view (.l 1) g 1 b.length), (6, .p (.int .i64 (p + i : Nat)))] (scn s p ++ rest) (strO g b)
        (scopeQ R (endQ f77 fun r' H' => r' = .p (resN p Z) ∧ H' = scn s p ++ rest)) := by
    intro n
    induction n with
    | zero => intro i g b h; omega
    | succ n ih =>
      intro i g b hn hi hb hz
      have plain : ∀ (i' g' : Nat) (b' : List UInt8), i < i' → i' ≤ l.length → b'.length ≤ i' → strP n (l.drop i') i' b' = Z → R 0 [(0, .ref (.b 0) 0), (2, .ref (.l 0) 0), (5, .view (.l 1) g' 1 b'.length), (6, .p (.int .i64 (p + i' : Nat)))] (scn s p ++ rest) (strO g' b') :=
        fun i' g' b' k1 k2 k3 k4 => by
          have q := ih i' g' b' (by omega) k2 k3 k4
          (conv at q => whnf)
          refine h0 _ _ _ ?_
          (conv => whnf)
          exact q
      cases ht : l.drop i with
      | nil =>
        have := drop_nil ht
        rw [ht] at hz
        simp only [strP] at hz
        subst hz
        (conv => whnf)
        refine splitB_t (decide_eq_true (by omega)) ?_
        repeat' ((conv => whnf); first | refine splitB_t rfl ?_ | refine ⟨rfl, ?_⟩ | done)
      | cons c t =>
        obtain ⟨hg, hd', hlt⟩ := drop_cons ht
        have hgs := (drop_cons (hdi i _ ht)).1
        rw [ht] at hz
        have hil : i < l.length := hlt
        have htl : t.length + (i + 1) = l.length := by
          have := congrArg List.length ht
          rw [List.length_drop, List.length_cons] at this
          omega
        (conv => whnf)
        refine splitB_f (decide_eq_false (by omega)) ?_
        (conv => whnf)
        refine ⟨c, ⟨by omega, by rw [Int.toNat_natCast]; exact hgs⟩, ?_⟩
        (conv => whnf)
        refine splitB_eq (fun e10 => ?_) (fun e10 => ?_)
        · have hc : c = 10 := u8_of 10 e10 rfl
          simp only [strP, if_pos hc] at hz
          subst hz
          repeat' ((conv => whnf); first | refine splitB_t rfl ?_ | refine ⟨rfl, ?_⟩ | done)
        have hc10 : c ≠ 10 := u8_ne 10 e10 rfl
        (conv => whnf)
        refine ⟨c, ⟨by omega, by rw [Int.toNat_natCast]; exact hgs⟩, ?_⟩
        (conv => whnf)
        rw [IntWalk.i64_in _ (by omega)]
        refine splitB_eq (fun e34 => ?_) (fun e34 => ?_)
        · have hc : c = 34 := u8_of 34 e34 rfl
          simp only [strP, if_neg hc10, if_pos hc] at hz
          subst hz
          (conv => whnf)
          refine ⟨⟨rfl, rfl, rfl, by simp [bsP]⟩, bsP b, by rw [List.take_of_length_le (by simp [bsP])], b, bsP_bytes b, ?_⟩
          (conv => whnf)
          exact ⟨rfl, rfl⟩
        have hc34 : c ≠ 34 := u8_ne 34 e34 rfl
        (conv => whnf)
        refine splitB_eq (fun e92 => ?_) (fun e92 => ?_)
        · have hc : c = 92 := u8_of 92 e92 rfl
          simp only [strP, if_neg hc10, if_neg hc34, if_pos hc] at hz
          subst hd'
          -- an octal number
          have digW : ∀ (m v : Nat), m ≤ 3 → i + 1 + (3 - m) ≤ l.length → v < 8 ^ (3 - m) → (match digF m v (l.drop (i + 1 + (3 - m))) with
              | .ok bs k => strP n ((l.drop (i + 1)).drop k) (i + 1 + k) (b ++ bs)
              | .cut => .err 0 141
              | .bad => .err i 142) = Z → R 3 [(0, .ref (.b 0) 0), (2, .ref (.l 0) 0), (5, .view (.l 1) g 1 b.length), (6, .p (.int .i64 (p + (i + 1 + (3 - m)) : Nat))), (7, .p (.int .i64 v)), (8, .p (.int .i64 (3 - m : Nat)))] (scn s p ++ rest) (strO g b) := by
            intro m
            induction m with
            | zero =>
              intro v hm hle hv hz
              have hv : v < 512 := hv
              refine h3 _ _ _ ?_
              (conv => whnf)
              refine splitB_t rfl ?_
              (conv => whnf)
              simp only [digF] at hz
              refine splitB_dec (fun hb => ?_) (fun hb => ?_)
              · rw [if_pos (by omega)] at hz
                subst hz
                (conv => whnf)
                rw [IntWalk.i64_in _ (by omega)]
                refine ⟨?_, rfl⟩
                show AV.p (.tup [zeroTok, .int .i64 _, .int .i64 142]) = AV.p (.tup [zeroTok, .int .i64 (p + i : Nat), .int .i64 142])
                rw [show ((p + (i + 1 + (3 - 0)) : Nat) : Int) - 4 = ((p + i : Nat) : Int) by omega]
              · rw [if_neg (by omega)] at hz
                (conv => whnf)
                refine ⟨rfl, ?_⟩
                (conv => whnf)
                rw [wrap8']
                refine ⟨⟨rfl, rfl, rfl, by simp [bsP]⟩, by simp [room]; omega, bsP (b ++ [UInt8.ofNat v]), ?_, ?_⟩
                · rw [List.take_of_length_le (by simp [bsP])]
                  simp only [bsP, List.map_append, List.map_cons, List.map_nil, UInt8.toNat_ofNat']
                  congr 3
                (conv => whnf)
                have hl3 : i + 1 + 3 ≤ l.length := hle
                have q := plain (i + 1 + 3) (g + 1) (b ++ [UInt8.ofNat v]) (by omega) (by omega) (by simp; omega) (by
                  rw [← hz]
                  show _ = strP n ((l.drop (i + 1)).drop 3) (i + 1 + 3) (b ++ [UInt8.ofNat v])
                  rw [List.drop_drop])
                simp only [List.length_append, List.length_cons, List.length_nil] at q
                exact q
            | succ m ihm =>
              intro v hm hle hv hz
              refine h3 _ _ _ ?_
              (conv => whnf)
              refine splitB_f (beq_eq_false_iff_ne.2 (by omega)) ?_
              (conv => whnf)
              cases hu : l.drop (i + 1 + (3 - (m + 1))) with
              | nil =>
                have := drop_nil hu
                rw [hu] at hz
                simp only [digF] at hz
                subst hz
                refine splitB_t (decide_eq_true (by omega)) ?_
                repeat' ((conv => whnf); first | refine splitB_t rfl ?_ | refine ⟨rfl, ?_⟩ | done)
              | cons d u =>
                obtain ⟨_, hu', hult⟩ := drop_cons hu
                have hgu := (drop_cons (hdi _ _ hu)).1
                rw [hu] at hz
                simp only [digF] at hz
                refine splitB_f (decide_eq_false (by omega)) ?_
                (conv => whnf)
                refine ⟨d, ⟨by omega, by rw [Int.toNat_natCast]; exact hgu⟩, ?_⟩
                (conv => whnf)
                have bad : oct d = false → Z = .err i 142 := fun ho => by rw [if_pos ho] at hz; exact hz.symm
                have err : AV.p (.tup [zeroTok, .int .i64 (IntKind.i64.wrap (IntKind.i64.wrap (((p + (i + 1 + (3 - (m + 1))) : Nat) : Int) - ((3 - (m + 1) : Nat) : Int)) - 1)), .int .i64 142]) = AV.p (resN p (.err i 142)) := by
                  rw [IntWalk.i64_in (((p + (i + 1 + (3 - (m + 1))) : Nat) : Int) - ((3 - (m + 1) : Nat) : Int)) (by omega), IntWalk.i64_in _ (by omega)]
                  show _ = AV.p (.tup [zeroTok, .int .i64 (p + i : Nat), .int .i64 142])
                  rw [show ((p + (i + 1 + (3 - (m + 1))) : Nat) : Int) - ((3 - (m + 1) : Nat) : Int) - 1 = ((p + i : Nat) : Int) by omega]
                refine splitB_dec (fun hb => ?_) (fun hb => ?_)
                · (conv => whnf)
                  refine splitB_t rfl ?_
                  rw [bad (by simp only [oct, Bool.and_eq_false_iff, decide_eq_false_iff_not]; omega)]
                  exact ⟨err, rfl⟩
                · (conv => whnf)
                  refine splitB_dec (fun hb2 => ?_) (fun hb2 => ?_)
                  · rw [bad (by simp only [oct, Bool.and_eq_false_iff, decide_eq_false_iff_not]; omega)]
                    exact ⟨err, rfl⟩
                  · have ho : oct d = true := by simp only [oct, Bool.and_eq_true, decide_eq_true_eq]; omega
                    obtain ⟨o1, o2, o3⟩ := octV_lt ho
                    rw [if_neg (by rw [ho]; simp)] at hz
                    have h8 : v < 64 := by
                      have : 8 ^ (3 - (m + 1)) ≤ 8 ^ 2 := Nat.pow_le_pow_right (by decide) (by omega)
                      omega
                    (conv => whnf)
                    refine ⟨by omega, ?_⟩
                    (conv => whnf)
                    rw [o3, or8 v (octV d) (by omega) o2]
                    rw [IntWalk.i64_in (((p + (i + 1 + (3 - (m + 1))) : Nat) : Int) + 1) (by omega), IntWalk.i64_in (((3 - (m + 1) : Nat) : Int) + 1) (by omega)]
                    have q := ihm (v * 8 + octV d) (by omega) (by omega) (by
                      have : 8 ^ (3 - m) = 8 ^ (3 - (m + 1)) * 8 := by rw [← Nat.pow_succ]; congr 1; omega
                      omega) (by
                      rw [show i + 1 + (3 - m) = i + 1 + (3 - (m + 1)) + 1 by omega, hu']
                      exact hz)
                    rw [show ((p + (i + 1 + (3 - m)) : Nat) : Int) = ((p + (i + 1 + (3 - (m + 1))) : Nat) : Int) + 1 by omega, show ((3 - m : Nat) : Int) = ((3 - (m + 1) : Nat) : Int) + 1 by omega] at q
                    exact q
          refine h1 _ _ _ ?_
          (conv => whnf)
          cases hu : l.drop (i + 1) with
          | nil =>
            have := drop_nil hu
            rw [hu] at hz
            simp only [pieceP] at hz
            subst hz
            refine splitB_t (decide_eq_true (by omega)) ?_
            repeat' ((conv => whnf); first | refine splitB_t rfl ?_ | refine ⟨rfl, ?_⟩ | done)
          | cons d u =>
            obtain ⟨_, hu', hult⟩ := drop_cons hu
            have hgu := (drop_cons (hdi _ _ hu)).1
            have hdig : d ≠ 34 → d ≠ 92 → d ≠ 110 → d ≠ 116 → d ≠ 114 → d ≠ 10 → (match digF 3 0 (d :: u) with
              | .ok bs k => strP n ((d :: u).drop k) (i + 1 + k) (b ++ bs)
              | .cut => .err 0 141
              | .bad => .err i 142) = Z := fun n1 n2 n3 n4 n5 n6 => by
              rw [hu] at hz
              have e : pieceP (d :: u) = digF 3 0 (d :: u) := by
                simp only [pieceP]
                rw [if_neg (fun e : d = 34 ∨ d = 92 => e.elim n1 n2), if_neg n3, if_neg n4, if_neg n5, if_neg n6]
              rw [← e]
              exact hz
            have one : ∀ x : UInt8, pieceP (d :: u) = .ok [x] 1 → R 0 [(0, .ref (.b 0) 0), (2, .ref (.l 0) 0), (5, .view (.l 1) (g + 1) 1 (b.length + 1)), (6, .p (.int .i64 (((p + i : Nat) : Int) + 1 + 1)))] (scn s p ++ rest) (strO (g + 1) (b ++ [x])) := fun x hx => by
              have q := plain (i + 1 + 1) (g + 1) (b ++ [x]) (by omega) (by omega) (by simp; omega) (by
                rw [hu, hx] at hz
                rw [← hz, hu']
                show _ = strP n (u.drop 0) (i + 1 + 1) (b ++ [x])
                rfl)
              simp only [List.length_append, List.length_cons, List.length_nil] at q
              exact q
            refine splitB_f (decide_eq_false (by omega)) ?_
            (conv => whnf)
            refine ⟨d, ⟨by omega, by rw [show Int.toNat (((p + i : Nat) : Int) + 1) = p + (i + 1) by omega]; exact hgu⟩, ?_⟩
            (conv => whnf)
            refine splitB_eq (fun f34 => ?_) (fun f34 => ?_)
            · have hc2 : d = 34 := u8_of 34 f34 rfl
              (conv => whnf)
              refine splitB_t (beq_iff_eq.2 f34) ?_
              (conv => whnf)
              rw [IntWalk.i64_in (((p + i : Nat) : Int) + 1 + 1) (by omega)]
              refine ⟨rfl, ?_⟩
              (conv => whnf)
              refine ⟨⟨rfl, rfl, rfl, by simp [bsP]⟩, by simp [room]; omega, bsP (b ++ [d]), by rw [List.take_of_length_le (by simp [bsP])]; simp [bsP], ?_⟩
              (conv => whnf)
              exact one d (by simp [pieceP, hc2])
            have n34 : d ≠ 34 := u8_ne 34 f34 rfl
            (conv => whnf)
            refine splitB_eq (fun f92 => ?_) (fun f92 => ?_)
            · have hc2 : d = 92 := u8_of 92 f92 rfl
              (conv => whnf)
              rw [IntWalk.i64_in (((p + i : Nat) : Int) + 1 + 1) (by omega)]
              refine ⟨rfl, ?_⟩
              (conv => whnf)
              refine ⟨⟨rfl, rfl, rfl, by simp [bsP]⟩, by simp [room]; omega, bsP (b ++ [d]), by rw [List.take_of_length_le (by simp [bsP])]; simp [bsP], ?_⟩
              (conv => whnf)
              exact one d (by simp [pieceP, hc2])
            have n92 : d ≠ 92 := u8_ne 92 f92 rfl
            (conv => whnf)
            refine splitB_eq (fun f110 => ?_) (fun f110 => ?_)
            · have hc2 : d = 110 := u8_of 110 f110 rfl
              (conv => whnf)
              rw [IntWalk.i64_in (((p + i : Nat) : Int) + 1 + 1) (by omega)]
              refine ⟨rfl, ?_⟩
              (conv => whnf)
              refine ⟨⟨rfl, rfl, rfl, by simp [bsP]⟩, by simp [room]; omega, bsP (b ++ [10]), by rw [List.take_of_length_le (by simp [bsP])]; simp [bsP], ?_⟩
              (conv => whnf)
              exact one 10 (by simp [pieceP, hc2])
            have n110 : d ≠ 110 := u8_ne 110 f110 rfl
            (conv => whnf)
            refine splitB_eq (fun f116 => ?_) (fun f116 => ?_)
            · have hc2 : d = 116 := u8_of 116 f116 rfl
              (conv => whnf)
              rw [IntWalk.i64_in (((p + i : Nat) : Int) + 1 + 1) (by omega)]
              refine ⟨rfl, ?_⟩
              (conv => whnf)
              refine ⟨⟨rfl, rfl, rfl, by simp [bsP]⟩, by simp [room]; omega, bsP (b ++ [9]), by rw [List.take_of_length_le (by simp [bsP])]; simp [bsP], ?_⟩
              (conv => whnf)
              exact one 9 (by simp [pieceP, hc2])
            have n116 : d ≠ 116 := u8_ne 116 f116 rfl
            (conv => whnf)
            refine splitB_eq (fun f114 => ?_) (fun f114 => ?_)
            · have hc2 : d = 114 := u8_of 114 f114 rfl
              (conv => whnf)
              rw [IntWalk.i64_in (((p + i : Nat) : Int) + 1 + 1) (by omega)]
              refine ⟨rfl, ?_⟩
              (conv => whnf)
              refine ⟨⟨rfl, rfl, rfl, by simp [bsP]⟩, by simp [room]; omega, bsP (b ++ [13]), by rw [List.take_of_length_le (by simp [bsP])]; simp [bsP], ?_⟩
              (conv => whnf)
              exact one 13 (by simp [pieceP, hc2])
            have n114 : d ≠ 114 := u8_ne 114 f114 rfl
            (conv => whnf)
            refine splitB_eq (fun f10 => ?_) (fun f10 => ?_)
            · have hc2 : d = 10 := u8_of 10 f10 rfl
              have hpc : pieceP (d :: u) = .ok [] (1 + whileL spc u) := by simp [pieceP, hc2]
              rw [hu, hpc] at hz
              have hwl := whileL_le spc u
              have hul : u.length + (i + 1 + 1) = l.length := by
                have := congrArg List.length hu
                rw [List.length_drop, List.length_cons] at this
                omega
              (conv => whnf)
              refine h2 _ _ _ ?_
              (conv => whnf)
              rw [IntWalk.i64_in _ (by omega)]
              intro R2 hR2
              have key2 : ∀ (v : List UInt8) (j : Nat), l.drop j = v → j ≤ l.length → j + whileL spc v = i + 1 + 1 + whileL spc u → R2 [(0, .ref (.b 0) 0), (2, .ref (.l 0) 0), (5, .view (.l 1) g 1 b.length), (6, .p (.int .i64 (p + j : Nat)))] (scn s p ++ rest) (strO g b) := by
                intro v
                induction v with
                | nil =>
                  intro j hj hjl hje
                  have := drop_nil hj
                  refine hR2 _ _ _ ?_
                  (conv => whnf)
                  refine splitB_f (decide_eq_false (by omega)) ?_
                  (conv => whnf)
                  refine splitB_f rfl ?_
                  (conv => whnf)
                  have q := plain (i + 1 + (1 + whileL spc u)) g b (by omega) (by omega) (by omega) (by
                    rw [← hz]
                    show strP n (l.drop (i + 1 + (1 + whileL spc u))) (i + 1 + (1 + whileL spc u)) b = strP n ((d :: u).drop (1 + whileL spc u)) (i + 1 + (1 + whileL spc u)) (b ++ [])
                    rw [List.append_nil, ← hu, List.drop_drop])
                  simp only [whileL] at hje
                  rw [show i + 1 + (1 + whileL spc u) = j by omega] at q
                  exact q
                | cons e v ihv =>
                  intro j hj hjl hje
                  obtain ⟨_, hj', hjlt⟩ := drop_cons hj
                  have hgj := (drop_cons (hdi _ _ hj)).1
                  have stop : spc e = false → R 0 [(0, .ref (.b 0) 0), (2, .ref (.l 0) 0), (5, .view (.l 1) g 1 b.length), (6, .p (.int .i64 (p + j : Nat)))] (scn s p ++ rest) (strO g b) := fun hs0 => by
                    have q := plain (i + 1 + (1 + whileL spc u)) g b (by omega) (by omega) (by omega) (by
                      rw [← hz]
                      show strP n (l.drop (i + 1 + (1 + whileL spc u))) (i + 1 + (1 + whileL spc u)) b = strP n ((d :: u).drop (1 + whileL spc u)) (i + 1 + (1 + whileL spc u)) (b ++ [])
                      rw [List.append_nil, ← hu, List.drop_drop])
                    simp only [whileL, hs0] at hje
                    rw [show i + 1 + (1 + whileL spc u) = j by simp at hje; omega] at q
                    exact q
                  have goon : spc e = true → R2 [(0, .ref (.b 0) 0), (2, .ref (.l 0) 0), (5, .view (.l 1) g 1 b.length), (6, .p (.int .i64 (((p + j : Nat) : Int) + 1)))] (scn s p ++ rest) (strO g b) := fun hs0 => by
                    simp only [whileL, hs0, if_true] at hje
                    exact ihv (j + 1) hj' (by omega) (by omega)
                  refine hR2 _ _ _ ?_
                  (conv => whnf)
                  refine splitB_t (decide_eq_true (by omega)) ?_
                  (conv => whnf)
                  refine ⟨e, ⟨by omega, by rw [Int.toNat_natCast]; exact hgj⟩, ?_⟩
                  (conv => whnf)
                  refine splitB_eq (fun g32 => ?_) (fun g32 => ?_)
                  · have hs0 : spc e = true := by rw [show e = 32 from u8_of 32 g32 rfl]; rfl
                    repeat' ((conv => whnf); first | refine splitB_t rfl ?_ | refine splitB_f rfl ?_ | done)
                    (conv => whnf)
                    rw [IntWalk.i64_in _ (by omega)]
                    exact goon hs0
                  have m32 : e ≠ 32 := u8_ne 32 g32 rfl
                  (conv => whnf)
                  refine ⟨e, ⟨by omega, by rw [Int.toNat_natCast]; exact hgj⟩, ?_⟩
                  (conv => whnf)
                  refine splitB_eq (fun g9 => ?_) (fun g9 => ?_)
                  · have hs0 : spc e = true := by rw [show e = 9 from u8_of 9 g9 rfl]; rfl
                    repeat' ((conv => whnf); first | refine splitB_t rfl ?_ | refine splitB_f rfl ?_ | done)
                    (conv => whnf)
                    rw [IntWalk.i64_in _ (by omega)]
                    exact goon hs0
                  have m9 : e ≠ 9 := u8_ne 9 g9 rfl
                  (conv => whnf)
                  refine ⟨e, ⟨by omega, by rw [Int.toNat_natCast]; exact hgj⟩, ?_⟩
                  (conv => whnf)
                  refine splitB_eq (fun g13 => ?_) (fun g13 => ?_)
                  · have hs0 : spc e = true := by rw [show e = 13 from u8_of 13 g13 rfl]; rfl
                    repeat' ((conv => whnf); first | refine splitB_t rfl ?_ | refine splitB_f rfl ?_ | done)
                    (conv => whnf)
                    rw [IntWalk.i64_in _ (by omega)]
                    exact goon hs0
                  have m13 : e ≠ 13 := u8_ne 13 g13 rfl
                  (conv => whnf)
                  exact stop (by simp [spc, m32, m9, m13])
              exact key2 u (i + 1 + 1) hu' (by omega) rfl
            · have n10 : d ≠ 10 := u8_ne 10 f10 rfl
              have q := digW 3 0 (by omega) (by omega) (by simp) (by
                rw [show i + 1 + (3 - 3) = i + 1 by omega, hu]
                exact hdig n34 n92 n110 n116 n114 n10)
              (conv => whnf)
              exact q
        · have hc92 : c ≠ 92 := u8_ne 92 e92 rfl
          simp only [strP, if_neg hc10, if_neg hc34, if_neg hc92] at hz
          (conv => whnf)
          refine ⟨rfl, ?_⟩
          (conv => whnf)
          refine ⟨⟨rfl, rfl, rfl, by simp [bsP]⟩, by simp [room]; omega, bsP (b ++ [c]), by rw [List.take_of_length_le (by simp [bsP])]; simp [bsP], ?_⟩
          (conv => whnf)
          have q := plain (i + 1) (g + 1) (b ++ [c]) (by omega) (by omega) (by simp; omega) (by rw [hd']; exact hz)
          simp only [List.length_append, List.length_cons, List.length_nil] at q
          exact q
  have q := key (r.length + 1) 1 0 [] (by omega) (by omega) (by simp) (by rw [← hl]; exact hZ)
  (conv at q => whnf)
  (conv => whnf)
  rw [IntWalk.i64_in _ (by omega)]
  exact q

end Go.Proofs.Ytemfnlidinnniaa.AD

namespace Go.Proofs.Ytemfnlidinnniaa.AD
open Go.Proofs
set_option linter.unusedVariables false
set_option linter.unusedSimpArgs false
set_option maxRecDepth 100000

def nextP : List UInt8 → NR
  | [] => .err 0 140
  | c :: r => if lett c = true then .tok 1 (ofL ((c :: r).take (whileL nam (c :: r)))) (whileL nam (c :: r))
    else if dig c = true then .tok (numL (c :: r)).1 (ofL ((c :: r).take (numL (c :: r)).2.1)) (numL (c :: r)).2.2
    else if c = 34 then strP (r.length + 1) r 1 []
    else if 0 < signL (c :: r) then .tok 6 (ofL ((c :: r).take (signL (c :: r)))) (signL (c :: r)) else .err 0 140

theorem signL_le (c : UInt8) (r : List UInt8) : signL (c :: r) ≤ (c :: r).length := by
  unfold signL
  split
  · rename_i h
    rw [List.any_eq_true] at h
    obtain ⟨p, hp, h⟩ := h
    have := preB_len h
    have h2 : p.data.toList.length = 2 := by
      simp only [twos, List.mem_cons, List.mem_nil_iff, or_false] at hp
      rcases hp with rfl | rfl | rfl | rfl | rfl | rfl | rfl | rfl <;> rfl
    omega
  · simp only [List.length_cons]; split <;> omega

theorem next_spec (s : ByteArray) (hs : s.size ≤ 65536) (p : Nat) (c : UInt8) (r : List UInt8) (hd : s.data.toList.drop p = c :: r) : Meth Try.prog 56 [.ref (.b 0) 0] (scn s p) (resN p (nextP (c :: r))) (scn s p) := by
  refine Meth.of f56_ok fun rest => ?_
  have hlen : r.length + 1 = s.size - p := by
    have := congrArg List.length hd
    rw [List.length_drop, ← ba_size] at this
    simpa using this.symm
  have hps := sz_lt hd
  have hg := (drop_cons hd).1
  have cut1 : ∀ e : Nat, p + e ≤ s.size → s.extract (Int.toNat (p : Int)) (Int.toNat ((p + e : Nat) : Int)) = ofL ((c :: r).take e) := fun e he => by
    rw [Int.toNat_natCast, Int.toNat_natCast]; exact ext_part s p e hd
  (conv => whnf)
  refine ⟨c, ⟨by omega, by rw [Int.toNat_natCast]; exact hg⟩, ?_⟩
  (conv => whnf)
  refine CallVC.pureF (letter_spec _) rfl ?_
  (conv => whnf)
  cases hlt : letterB c.toNat with
  | true =>
    have hN : nextP (c :: r) = .tok 1 (ofL ((c :: r).take (whileL nam (c :: r)))) (whileL nam (c :: r)) := by
      simp only [nextP]; rw [if_pos hlt]
    rw [hN]
    have hw := whileL_le nam (c :: r)
    refine splitB_t rfl ?_
    (conv => whnf)
    refine while_at s hs _ (by kernel_rfl) nam (fun c => nextFn_spec _) p rest _ p (by omega) ?_
    rw [hd]
    generalize whileL nam (c :: r) = n at hw ⊢
    simp only [List.length_cons] at hw
    (conv => whnf)
    refine ⟨⟨by omega, by omega, by omega⟩, ?_⟩
    (conv => whnf)
    rw [cut1 n (by omega)]
    exact ⟨rfl, rfl⟩
  | false =>
    refine splitB_f rfl ?_
    (conv => whnf)
    refine CallVC.pureF (digit_spec _) rfl ?_
    (conv => whnf)
    cases hdg : digitB c.toNat with
    | true =>
      have hN : nextP (c :: r) = .tok (numL (c :: r)).1 (ofL ((c :: r).take (numL (c :: r)).2.1)) (numL (c :: r)).2.2 := by
        simp only [nextP]; rw [if_neg (by rw [show lett c = letterB c.toNat from rfl, hlt]; simp), if_pos hdg]
      rw [hN]
      refine splitB_t rfl ?_
      (conv => whnf)
      have q := number_spec s hs p (c :: r) (by omega) hd
      generalize numL (c :: r) = z at q ⊢
      refine CallVC.same q rfl rfl rfl ?_
      (conv => whnf)
      exact ⟨rfl, rfl⟩
    | false =>
      refine splitB_f rfl ?_
      (conv => whnf)
      have n1 : ¬ lett c = true := by rw [show lett c = letterB c.toNat from rfl, hlt]; simp
      have n2 : ¬ dig c = true := by rw [show dig c = digitB c.toNat from rfl, hdg]; simp
      refine splitB_eq (fun e34 => ?_) (fun e34 => ?_)
      · have hc : c = 34 := u8_of 34 e34 rfl
        have hN : nextP (c :: r) = strP (r.length + 1) r 1 [] := by
          simp only [nextP]; rw [if_neg n1, if_neg n2, if_pos hc]
        rw [hN]
        rw [hc] at hd
        have q := str_spec s hs p r hd
        (conv => whnf)
        cases hz : strP (r.length + 1) r 1 [] with
        | tok k t len =>
          rw [hz] at q
          refine CallVC.same q rfl rfl rfl ?_
          (conv => whnf)
          exact ⟨rfl, rfl⟩
        | err o e =>
          rw [hz] at q
          refine CallVC.same q rfl rfl rfl ?_
          (conv => whnf)
          exact ⟨rfl, rfl⟩
      · have hc : c ≠ 34 := u8_ne 34 e34 rfl
        have hsl := signL_le c r
        simp only [List.length_cons] at hsl
        have q := sign_spec s hs p c r hd
        have hN : nextP (c :: r) = if 0 < signL (c :: r) then .tok 6 (ofL ((c :: r).take (signL (c :: r)))) (signL (c :: r)) else .err 0 140 := by
          simp only [nextP]; rw [if_neg n1, if_neg n2, if_neg hc]
        rw [hN]
        generalize signL (c :: r) = n at q hsl ⊢
        (conv => whnf)
        refine CallVC.same q rfl rfl rfl ?_
        (conv => whnf)
        refine splitB_dec (fun h => ?_) (fun h => ?_)
        · rw [if_pos (by omega)]
          (conv => whnf)
          rw [IntWalk.i64_in ((p : Int) + n) (by omega)]
          refine ⟨⟨by omega, by omega, by omega⟩, ?_⟩
          (conv => whnf)
          rw [IntWalk.i64_in ((p : Int) + n) (by omega)]
          have e1 := cut1 n (by omega)
          rw [show Int.toNat ((p : Int) + n) = Int.toNat ((p + n : Nat) : Int) by omega, e1]
          exact ⟨rfl, rfl⟩
        · rw [if_neg (by omega)]
          repeat' ((conv => whnf); first | refine ⟨rfl, ?_⟩ | done)

end Go.Proofs.Ytemfnlidinnniaa.AD

namespace Go.Proofs.Ytemfnlidinnniaa.AD
open Go.Proofs
set_option linter.unusedVariables false
set_option linter.unusedSimpArgs false
set_option maxRecDepth 100000

theorem digF_len : ∀ (m v : Nat) (l : List UInt8) (bs : List UInt8) (n : Nat), digF m v l = .ok bs n → m ≤ l.length ∧ n = 3
  | 0, v, l, bs, n, h => by
    simp only [digF] at h
    split at h
    · cases h
    · cases h; exact ⟨by omega, rfl⟩
  | m + 1, v, [], bs, n, h => by cases h
  | m + 1, v, c :: r, bs, n, h => by
    simp only [digF] at h
    split at h
    · cases h
    · obtain ⟨h1, h2⟩ := digF_len m _ r bs n h
      exact ⟨by simpa using h1, h2⟩
theorem pieceP_len {l bs : List UInt8} {n : Nat} (h : pieceP l = .ok bs n) : 1 ≤ n ∧ n ≤ l.length := by
  cases l with
  | nil => cases h
  | cons c r =>
    simp only [pieceP] at h
    have hw := whileL_le spc r
    simp only [List.length_cons]
    split at h
    · cases h; omega
    split at h
    · cases h; omega
    split at h
    · cases h; omega
    split at h
    · cases h; omega
    split at h
    · cases h; omega
    · obtain ⟨h1, rfl⟩ := digF_len 3 0 _ bs n h
      simp only [List.length_cons] at h1
      omega
theorem strP_len : ∀ (f : Nat) (l : List UInt8) (i : Nat) (b : List UInt8) (k : Int) (t : ByteArray) (len : Nat), strP f l i b = .tok k t len → i < len ∧ len ≤ i + l.length
  | 0, l, i, b, k, t, len, h => by cases h
  | f + 1, [], i, b, k, t, len, h => by cases h
  | f + 1, c :: r, i, b, k, t, len, h => by
    simp only [strP] at h
    simp only [List.length_cons]
    split at h
    · cases h
    split at h
    · cases h; omega
    split at h
    · split at h
      · rename_i bs n hp
        obtain ⟨p1, p2⟩ := pieceP_len hp
        obtain ⟨h1, h2⟩ := strP_len f _ _ _ k t len h
        rw [List.length_drop] at h2
        omega
      · cases h
      · cases h
    · obtain ⟨h1, h2⟩ := strP_len f r _ _ k t len h
      omega
theorem strP_err : ∀ (f : Nat) (l : List UInt8) (i : Nat) (b : List UInt8) (o : Nat) (e : Int), strP f l i b = .err o e → (e = 141 ∨ e = 142) ∧ (o = 0 ∨ (i ≤ o ∧ o < i + l.length))
  | 0, l, i, b, o, e, h => by cases h; exact ⟨.inl rfl, .inl rfl⟩
  | f + 1, [], i, b, o, e, h => by cases h; exact ⟨.inl rfl, .inl rfl⟩
  | f + 1, c :: r, i, b, o, e, h => by
    simp only [strP] at h
    simp only [List.length_cons]
    split at h
    · cases h; exact ⟨.inl rfl, .inl rfl⟩
    split at h
    · cases h
    split at h
    · split at h
      · rename_i bs n hp
        obtain ⟨p1, p2⟩ := pieceP_len hp
        obtain ⟨h1, h2⟩ := strP_err f _ _ _ o e h
        rw [List.length_drop] at h2
        exact ⟨h1, by omega⟩
      · cases h; exact ⟨.inl rfl, .inl rfl⟩
      · cases h; exact ⟨.inr rfl, .inr (by omega)⟩
    · obtain ⟨h1, h2⟩ := strP_err f r _ _ o e h
      exact ⟨h1, by omega⟩

theorem numL_len (c : UInt8) (r : List UInt8) (h : dig c = true) : 1 ≤ (numL (c :: r)).2.1 ∧ (numL (c :: r)).2.1 ≤ (numL (c :: r)).2.2 ∧ (numL (c :: r)).2.2 ≤ (c :: r).length := by
  have h1 : 1 ≤ whileL dig (c :: r) := by simp only [whileL, h, if_true]; omega
  have hw := whileL_le dig (c :: r)
  unfold numL
  generalize whileL dig (c :: r) = n at h1 hw ⊢
  have hw2 := whileL_le dig ((c :: r).drop (n + 1))
  rw [List.length_drop] at hw2
  split
  · rename_i a b m hm
    have hl : ((c :: r).drop n).length = m.length + 2 := by rw [hm]; rfl
    rw [List.length_drop] at hl
    split
    · simp only; omega
    · split
      · rename_i ho
        have hp : preB ofS ((c :: r).drop n) = true := by
          cases hb : preB ofS ((c :: r).drop n) with
          | true => rfl
          | false => rw [ofB, hb] at ho; cases ho
        have := preB_len hp
        rw [List.length_drop] at this
        have h3 : ofS.length = 3 := rfl
        simp only; omega
      · simp only; omega
  · simp only; omega

theorem nextP_len (c : UInt8) (r : List UInt8) {k : Int} {t : ByteArray} {len : Nat} (h : nextP (c :: r) = .tok k t len) : 1 ≤ len ∧ len ≤ (c :: r).length := by
  simp only [nextP] at h
  split at h
  · rename_i hl
    cases h
    have h1 : nam c = true := by simp only [nam]; rw [show letterB c.toNat = lett c from rfl, hl]; rfl
    have hw := whileL_le nam (c :: r)
    have : 1 ≤ whileL nam (c :: r) := by simp only [whileL, h1, if_true]; omega
    exact ⟨this, hw⟩
  split at h
  · rename_i hl
    cases h
    obtain ⟨h1, h2, h3⟩ := numL_len c r hl
    exact ⟨by omega, h3⟩
  split at h
  · obtain ⟨h1, h2⟩ := strP_len _ _ _ _ _ _ _ h
    simp only [List.length_cons]; omega
  split at h
  · cases h
    exact ⟨by omega, signL_le c r⟩
  · cases h
theorem nextP_err (c : UInt8) (r : List UInt8) {o : Nat} {e : Int} (h : nextP (c :: r) = .err o e) : (e = 140 ∨ e = 141 ∨ e = 142) ∧ o ≤ r.length := by
  simp only [nextP] at h
  split at h
  · cases h
  split at h
  · cases h
  split at h
  · obtain ⟨h1, h2⟩ := strP_err _ _ _ _ _ _ h
    exact ⟨by omega, by omega⟩
  split at h
  · cases h
  · cases h; exact ⟨.inl rfl, by omega⟩

structure Tok where
  k : Int
  t : ByteArray
  a : Nat
  e : Nat
def tkP (x : Tok) : PV := tokP x.k x.t x.a x.e
inductive TR where
  | ok (l : List Tok)
  | err (p : Nat) (e : Int)
/-- Behind blanks. -/
def tokG : Nat → List UInt8 → Nat → List Tok → TR
  | 0, _, _, _ => .err 0 0
  | f + 1, [], q, acc => .ok acc
  | f + 1, c :: r, q, acc => if acc.length = 8192 then .err q 3 else match nextP (c :: r) with
    | .err o e => .err (q + o) e
    | .tok k t len => tokG f (((c :: r).drop len).drop (skipF false ((c :: r).drop len))) (q + len + skipF false ((c :: r).drop len)) (acc ++ [⟨k, t, q, q + len⟩])
def tokensR (s : ByteArray) : TR := if 65536 < s.size then .err 0 3 else tokG (s.size + 1) (s.data.toList.drop (skipF false s.data.toList)) (skipF false s.data.toList) []
def resT : TR → PV
  | .ok l => .tup [.list 4 (l.map tkP), .int .i64 0, .int .i64 0]
  | .err p e => .tup [.nils, .int .i64 p, .int .i64 e]

theorem tkP_flat (l : List Tok) : ∀ e, e ∈ l.map tkP → Flat e := fun e he => by
  obtain ⟨x, _, rfl⟩ := List.mem_map.1 he
  exact .agg _ fun c hc => by
    simp only [List.mem_cons, List.mem_nil_iff, or_false] at hc
    rcases hc with rfl | rfl | rfl | rfl
    · exact .int _ _
    · exact .str _
    · exact .int _ _
    · exact .int _ _

end Go.Proofs.Ytemfnlidinnniaa.AD

namespace Go.Proofs.Ytemfnlidinnniaa.AD
open Go.Proofs
set_option linter.unusedVariables false
set_option linter.unusedSimpArgs false
set_option maxRecDepth 100000

def scO (s : ByteArray) (p : Int) : Ob := .cells [.p (.str s), .p (.int .i64 p)]
/-- What Tokens has at hand while the loop goes on. -/
def tkO (L : Nat) (r : Loop) (s : ByteArray) (p : Int) (g n : Nat) (acc : List Tok) : List Ob :=
  [.cells [.p .nils], .cells [.p (.int .i64 0)], .cells [.p (.int .i64 0)], .cells [.view (.l 5) g 4 n], scO s p, .buf g 4 (acc.map tkP), .cells [.ref (.l 4) 0], .loop L r [2, 3, 4, 5, 6] [.ref (.l 0) 0, .ref (.l 1) 0, .ref (.l 2) 0, .ref (.l 3) 0, .ref (.l 4) 0] .ready]

theorem Tokens_spec (s : ByteArray) (hsz : (s.size : Int) ≤ 9223372036854775807) : pureF Try.prog 13 [.p (.str s)] (.p (resT (tokensR s))) := by
  refine pureF_fresh (ps := [.str s]) ?_
  refine CallVC.inline f13_ok ?_
  (conv => whnf)
  refine splitB_dec (fun h => ?_) (fun h => ?_)
  · have hR : tokensR s = .err 0 3 := by rw [tokensR, if_pos (by omega)]
    rw [hR]
    (conv => whnf)
    refine .p _ (.tup _ fun c hc => ?_)
    simp only [List.mem_cons, List.mem_nil_iff, or_false] at hc
    rcases hc with rfl | rfl | rfl
    · exact .nils
    · exact .int _ _
    · exact .int _ _
  have hs : s.size ≤ 65536 := by omega
  have hR : tokensR s = tokG (s.size + 1) (s.data.toList.drop (skipF false s.data.toList)) (skipF false s.data.toList) [] := by rw [tokensR, if_neg (by omega)]
  rw [hR]
  generalize hZ : tokG (s.size + 1) (s.data.toList.drop (skipF false s.data.toList)) (skipF false s.data.toList) [] = Z
  (conv => whnf)
  refine CallVC.ghost 3 0 4 rfl rfl ?_
  refine CallVC.inline f32_ok ?_
  (conv => whnf)
  refine ⟨rfl, ?_⟩
  (conv => whnf)
  intro L r hY
  (conv => whnf)
  refine ⟨by kernel_rfl, ?_⟩
  refine CallVC.inline f54_ok ?_
  (conv => whnf)
  refine CallVC.methM' [4, 0, 1, 2, 3, 5, 6, 7] 8 (tkO L r s (0 + skipF false (s.data.toList.drop 0) : Nat) 0 0 []) (skip_spec s hs 0 (by omega)) rfl rfl rfl rfl rfl (by decide) (by decide) rfl ?_
  (conv => whnf)
  intro R hR2
  rw [show 0 + skipF false (s.data.toList.drop 0) = skipF false s.data.toList by simp]
  have key : ∀ (f : Nat) (l : List UInt8) (q g n : Nat) (acc : List Tok), n = acc.length → l.length < f → s.data.toList.drop q = l → q ≤ s.size → acc.length ≤ 8192 → tokG f l q acc = Z →
      R [(0, .p (.fn (.yield L))), (1, .ref (.l 6) 0)] [] (tkO L r s q g n acc) := by
    intro f
    induction f with
    | zero => intro l q g n acc _ h; omega
    | succ f ih =>
      intro l q g n acc hn hf hd hq ha hz
      cases l with
      | nil =>
        have := sz_le hd
        simp only [tokG] at hz
        subst hz
        refine hR2 _ _ _ ?_
        (conv => whnf)
        refine splitB_f (decide_eq_false (by omega)) ?_
        (conv => whnf)
        refine ⟨⟨rfl, rfl⟩, ?_⟩
        (conv => whnf)
        refine .tup _ _ rfl fun n c p hc hp => ?_
        match n, hc, hp with
        | 0, hc, hp => cases hc; cases hp; exact .view _ _ _ _ _ rfl (by rw [hn]; simp) (tkP_flat acc)
        | 1, hc, hp => cases hc; cases hp; exact .p _ (.int _ _)
        | 2, hc, hp => cases hc; cases hp; exact .p _ (.int _ _)
      | cons c t =>
        have hql := sz_lt hd
        have hnx := next_spec s hs q c t hd
        have hlen : t.length + 1 = s.size - q := by
          have := congrArg List.length hd
          rw [List.length_drop, ← ba_size] at this
          simpa using this.symm
        simp only [tokG] at hz
        refine hR2 _ _ _ ?_
        (conv => whnf)
        refine splitB_t (decide_eq_true (by omega)) ?_
        (conv => whnf)
        have over : acc.length = 8192 → Z = .err q 3 := fun e => by rw [if_pos e] at hz; exact hz.symm
        have lend : ∀ (os : List Ob) (p : Nat) (e : Int), LendF os (.p (.tup [.nils, .int .i64 p, .int .i64 e])) (resT (.err p e)) := fun os p e => .p _ (.tup _ fun c hc => by
          simp only [List.mem_cons, List.mem_nil_iff, or_false] at hc
          rcases hc with rfl | rfl | rfl
          · exact .nils
          · exact .int _ _
          · exact .int _ _)
        cases hN : nextP (c :: t) with
        | err o e =>
          rw [hN] at hnx hz
          obtain ⟨he, ho⟩ := nextP_err c t hN
          refine CallVC.methM' [4, 0, 1, 2, 3, 5, 6, 7] 8 (tkO L r s q g n acc) hnx rfl rfl rfl rfl rfl (by decide) (by decide) rfl ?_
          (conv => whnf)
          refine hY [zeroTok, .agg [.int .i64 (q + o : Nat), .int .i64 e]] _ _ _ ?_
          (conv => whnf)
          refine ⟨⟨rfl, rfl⟩, ?_⟩
          (conv => whnf)
          refine ⟨⟨rfl, rfl⟩, ?_⟩
          (conv => whnf)
          refine ⟨rfl, ?_⟩
          (conv => whnf)
          refine splitB_eq (fun h8 => ?_) (fun h8 => ?_)
          · rw [over (by omega)]
            repeat' ((conv => whnf); first | refine ⟨⟨rfl, rfl⟩, ?_⟩ | refine ⟨rfl, ?_⟩ | refine splitB_t rfl ?_ | refine splitB_f rfl ?_ | done)
            (conv => whnf)
            exact lend _ _ _
          · rw [if_neg (by omega)] at hz
            subst hz
            (conv => whnf)
            refine splitB_t (by rcases he with rfl | rfl | rfl <;> rfl) ?_
            repeat' ((conv => whnf); first | refine ⟨⟨rfl, rfl⟩, ?_⟩ | refine ⟨rfl, ?_⟩ | refine splitB_t rfl ?_ | refine splitB_f rfl ?_ | done)
            (conv => whnf)
            exact lend _ _ _
        | tok k x len =>
          rw [hN] at hnx hz
          obtain ⟨hl1, hl2⟩ := nextP_len c t hN
          refine CallVC.methM' [4, 0, 1, 2, 3, 5, 6, 7] 8 (tkO L r s q g n acc) hnx rfl rfl rfl rfl rfl (by decide) (by decide) rfl ?_
          (conv => whnf)
          refine hY [tokP k x q (q + len : Nat), .agg [.int .i64 0, .int .i64 0]] _ _ _ ?_
          (conv => whnf)
          refine ⟨⟨rfl, rfl⟩, ?_⟩
          (conv => whnf)
          refine ⟨⟨rfl, rfl⟩, ?_⟩
          (conv => whnf)
          refine ⟨rfl, ?_⟩
          (conv => whnf)
          refine splitB_eq (fun h8 => ?_) (fun h8 => ?_)
          · rw [over (by omega)]
            repeat' ((conv => whnf); first | refine ⟨⟨rfl, rfl⟩, ?_⟩ | refine ⟨rfl, ?_⟩ | refine splitB_t rfl ?_ | refine splitB_f rfl ?_ | done)
            (conv => whnf)
            exact lend _ _ _
          · rw [if_neg (by omega)] at hz
            simp only [List.length_cons] at hl2
            (conv => whnf)
            refine splitB_f rfl ?_
            (conv => whnf)
            refine ⟨rfl, ?_⟩
            (conv => whnf)
            refine ⟨⟨rfl, rfl, rfl, by rw [hn]; simp⟩, by simp [room]; omega, (acc ++ [(⟨k, x, q, q + len⟩ : Tok)]).map tkP, by rw [List.take_of_length_le (by rw [hn]; simp)]; simp [tkP, tokP], ?_⟩
            (conv => whnf)
            refine ⟨⟨rfl, rfl⟩, ?_⟩
            (conv => whnf)
            refine splitB_f rfl ?_
            (conv => whnf)
            have hd2 : s.data.toList.drop (q + len) = (c :: t).drop len := by rw [← List.drop_drop, hd]
            refine CallVC.methM' [4, 0, 1, 2, 3, 5, 6, 7, 8, 9, 10] 11 (tkO L r s (q + len + skipF false (s.data.toList.drop (q + len)) : Nat) (g + 1) (n + 1) (acc ++ [(⟨k, x, q, q + len⟩ : Tok)]) ++ [.cells [.p (.int .u8 k), .p (.str x), .p (.int .i64 q), .p (.int .i64 (q + len : Nat))], .cells [.p (.int .u8 k), .p (.str x), .p (.int .i64 q), .p (.int .i64 (q + len : Nat))], .cells [.p (.int .i64 0), .p (.int .i64 0)]]) (skip_spec s hs (q + len) (by omega)) rfl rfl rfl rfl rfl (by decide) (by decide) rfl ?_
            (conv => whnf)
            have hsk := skipF_le ((c :: t).drop len) false
            rw [List.length_drop, List.length_cons] at hsk
            refine ih (((c :: t).drop len).drop (skipF false ((c :: t).drop len))) (q + len + skipF false (s.data.toList.drop (q + len))) (g + 1) (n + 1) (acc ++ [(⟨k, x, q, q + len⟩ : Tok)]) (by simp [hn]) ?_ ?_ ?_ (by simp; omega) ?_
            · rw [List.length_drop, List.length_drop, List.length_cons]
              simp only [List.length_cons] at hf
              omega
            · rw [← List.drop_drop, hd2]
            · rw [hd2]; omega
            · rw [hd2]; exact hz
  refine key _ _ _ 0 0 [] rfl ?_ rfl ?_ (by simp) hZ
  · rw [List.length_drop, ← ba_size]; omega
  · have := skipF_le s.data.toList false
    rw [← ba_size] at this
    exact this

end Go.Proofs.Ytemfnlidinnniaa.AD

namespace Go.Proofs.Ytemfnlidinnniaa.AD
open Go.Proofs
set_option linter.unusedVariables false
set_option linter.unusedSimpArgs false
set_option maxRecDepth 100000

def sepC (h : UInt8) : Prop := h = 32 ∨ h = 9 ∨ h = 13 ∨ h = 10
/-- Nothing, or what begins with a blank. -/
def sepH (x : List UInt8) : Prop := ∀ h y, x = h :: y → sepC h

theorem sep_nam {h : UInt8} (k : sepC h) : lett h = false ∧ dig h = false ∧ nam h = false ∧ h ≠ 46 ∧ h ≠ 45 := by
  rcases k with rfl | rfl | rfl | rfl <;> decide

theorem whileL_app {p : UInt8 → Bool} {x : List UInt8} (hx : ∀ h y, x = h :: y → p h = false) : ∀ l : List UInt8, whileL p (l ++ x) = whileL p l
  | [] => by
    cases x with
    | nil => rfl
    | cons h y => simp only [List.nil_append, whileL, hx h y rfl]; rfl
  | c :: r => by simp only [List.cons_append, whileL, whileL_app hx r]
theorem whileL_lt {p : UInt8 → Bool} {x : List UInt8} : ∀ l : List UInt8, whileL p l < l.length → whileL p (l ++ x) = whileL p l
  | [], h => by simp at h
  | c :: r, h => by
    simp only [List.cons_append, whileL] at h ⊢
    split
    · rename_i hc
      rw [if_pos hc, List.length_cons] at h
      rw [whileL_lt r (by omega)]
    · rfl
theorem whileL_take {p : UInt8 → Bool} : ∀ (l : List UInt8) (m : Nat), whileL p l ≤ m → whileL p (l.take m) = whileL p l
  | [], m, _ => by simp
  | c :: r, 0, h => by
    simp only [whileL] at h ⊢
    split at h
    · omega
    · rename_i hc; simp [whileL, hc]
  | c :: r, m + 1, h => by
    simp only [List.take_succ_cons, whileL] at h ⊢
    split
    · rename_i hc
      rw [if_pos hc] at h
      rw [whileL_take r m (by omega)]
    · rfl

theorem preB_app {p : List UInt8} (hp : ∀ c, c ∈ p → ¬ sepC c) {x : List UInt8} (hx : sepH x) (l : List UInt8) : preB p (l ++ x) = preB p l := by
  rcases Nat.lt_or_ge l.length p.length with h | h
  · have h1 : preB p l = false := by
      cases hb : preB p l with
      | false => rfl
      | true => have := preB_len hb; omega
    rw [h1]
    cases hb : preB p (l ++ x) with
    | false => rfl
    | true =>
      exfalso
      have hl := preB_len hb
      cases x with
      | nil => simp at hl; omega
      | cons g y =>
        rw [preB, decide_eq_true_eq] at hb
        have h2 : p[l.length]? = some g := by
          rw [← hb, List.getElem?_take, if_pos h, List.getElem?_append_right (Nat.le_refl _)]
          simp
        exact hp g (List.mem_of_getElem? h2) (hx g y rfl)
  · unfold preB
    rw [List.take_append_of_le_length h]
theorem preB_take {p : List UInt8} {l : List UInt8} {m : Nat} (h : p.length ≤ m) : preB p (l.take m) = preB p l := by
  unfold preB
  rw [List.take_take, Nat.min_eq_left h]

theorem ofS_sep : ∀ c, c ∈ ofS → ¬ sepC c := by
  intro c hc
  simp only [ofS, List.mem_cons, List.mem_nil_iff, or_false] at hc
  rcases hc with rfl | rfl | rfl <;> (unfold sepC; decide)
theorem twos_sep : ∀ p, p ∈ twos → (∀ c, c ∈ p.data.toList → ¬ sepC c) ∧ p.data.toList.length = 2 := by
  intro p hp
  simp only [twos, List.mem_cons, List.mem_nil_iff, or_false] at hp
  have h2 : ∀ a b : UInt8, ¬ sepC a → ¬ sepC b → (∀ c, c ∈ ([a, b] : List UInt8) → ¬ sepC c) := fun a b ha hb c hc => by
    simp only [List.mem_cons, List.mem_nil_iff, or_false] at hc
    rcases hc with rfl | rfl
    · exact ha
    · exact hb
  rcases hp with rfl | rfl | rfl | rfl | rfl | rfl | rfl | rfl <;> exact ⟨h2 _ _ (by unfold sepC; decide) (by unfold sepC; decide), rfl⟩

theorem ofB_app {x : List UInt8} (hx : sepH x) (m : List UInt8) : ofB (m ++ x) = ofB m := by
  unfold ofB
  rw [preB_app ofS_sep hx]
  cases hb : preB ofS m with
  | false => rfl
  | true =>
    have hl := preB_len hb
    have h3 : ofS.length = 3 := rfl
    rw [List.drop_append_of_le_length (by omega)]
    cases hm : m.drop 3 with
    | nil =>
      rw [List.nil_append]
      cases x with
      | nil => rfl
      | cons h y =>
        obtain ⟨k1, k2, _⟩ := sep_nam (hx h y rfl)
        simp [k1, k2]
    | cons a r => rfl

theorem numL_app {x : List UInt8} (hx : sepH x) (l : List UInt8) : numL (l ++ x) = numL l := by
  have hw : ∀ l, whileL dig (l ++ x) = whileL dig l := fun l => whileL_app (fun h y e => (sep_nam (hx h y e)).2.1) l
  have hle := whileL_le dig l
  unfold numL
  rw [hw l]
  generalize whileL dig l = n at hle ⊢
  rw [List.drop_append_of_le_length hle]
  cases hm : l.drop n with
  | nil =>
    rw [List.nil_append]
    cases x with
    | nil => rfl
    | cons h y =>
      cases y with
      | nil => rfl
      | cons d m =>
        have k := (sep_nam (hx h _ rfl)).2.2.2.1
        simp only
        rw [if_neg (fun e => k e.1)]
        have : ofB (h :: d :: m) = false := by
          have := ofB_app hx []
          rw [List.nil_append] at this
          rw [this]; rfl
        exact if_neg (by rw [this]; simp)
  | cons c m1 =>
    cases m1 with
    | nil =>
      cases x with
      | nil => rfl
      | cons h y =>
        have k := (sep_nam (hx h _ rfl)).2.1
        simp only [List.cons_append, List.nil_append]
        rw [if_neg (fun e => by rw [k] at e; cases e.2)]
        have : ofB (c :: h :: y) = false := by
          have := ofB_app hx [c]
          rw [List.cons_append, List.nil_append] at this
          rw [this]
          cases hb : preB ofS [c] with
          | false => rw [ofB, hb]; rfl
          | true => have := preB_len hb; simp [ofS] at this
        exact if_neg (by rw [this]; simp)
    | cons d m =>
      have hn1 : n + 1 ≤ l.length := by
        have := congrArg List.length hm
        rw [List.length_drop] at this
        simp only [List.length_cons] at this
        omega
      simp only [List.cons_append]
      have ho : ofB (c :: d :: (m ++ x)) = ofB (c :: d :: m) := ofB_app hx (c :: d :: m)
      rw [List.drop_append_of_le_length hn1, hw]
      simp only [ho]

theorem numL_take (l : List UInt8) : numL (l.take (numL l).2.2) = numL l := by
  have hle := whileL_le dig l
  generalize hn : whileL dig l = n at hle
  have ht : ∀ m, n ≤ m → whileL dig (l.take m) = n := fun m h => by rw [whileL_take l m (by omega), hn]
  have plain : numL l = (2, n, n) → numL (l.take n) = (2, n, n) := fun _ => by
    unfold numL
    rw [ht n (Nat.le_refl _), List.drop_take, Nat.sub_self, List.take_zero]
  have hdef : numL l = match l.drop n with
      | c :: d :: _ => if c = 46 ∧ dig d = true then (3, n + 1 + whileL dig (l.drop (n + 1)), n + 1 + whileL dig (l.drop (n + 1))) else if ofB (l.drop n) = true then (5, n, n + 3) else (2, n, n)
      | _ => (2, n, n) := by unfold numL; rw [hn] <;> rfl
  cases hm : l.drop n with
  | nil => rw [hm] at hdef; rw [hdef]; exact plain hdef
  | cons c m1 =>
    cases m1 with
    | nil => rw [hm] at hdef; rw [hdef]; exact plain hdef
    | cons d m =>
      rw [hm] at hdef
      simp only at hdef
      by_cases h46 : c = 46 ∧ dig d = true
      · rw [if_pos h46] at hdef
        rw [hdef]
        simp only
        have hd1 : l.drop (n + 1) = d :: m := by rw [← List.drop_drop, hm]; rfl
        generalize hw : whileL dig (l.drop (n + 1)) = w
        have hw1 : 1 ≤ w := by rw [← hw, hd1]; simp only [whileL, h46.2, if_true]; omega
        unfold numL
        rw [ht _ (by omega), List.drop_take, hm, show n + 1 + w - n = (w - 1) + 1 + 1 by omega, List.take_succ_cons, List.take_succ_cons]
        simp only
        rw [if_pos h46, List.drop_take, show n + 1 + w - (n + 1) = w by omega, whileL_take _ _ (by omega), hw]
      · rw [if_neg h46] at hdef
        by_cases ho : ofB (c :: d :: m) = true
        · rw [if_pos ho] at hdef
          rw [hdef]
          simp only
          have hp : preB ofS (c :: d :: m) = true := by
            cases hb : preB ofS (c :: d :: m) with
            | true => rfl
            | false => rw [ofB, hb] at ho; cases ho
          have hp2 := hp
          rw [preB, decide_eq_true_eq] at hp2
          have h3 : (c :: d :: m).take 3 = ofS := hp2
          unfold numL
          rw [ht _ (by omega), List.drop_take, hm, show n + 3 - n = 3 by omega, h3]
          simp only [ofS]
          rw [if_neg (show ¬ ((45 : UInt8) = 46 ∧ dig 111 = true) by decide)]
          exact if_pos (show ofB [45, 111, 102] = true by decide)
        · rw [if_neg ho] at hdef
          rw [hdef]
          exact plain hdef

end Go.Proofs.Ytemfnlidinnniaa.AD

namespace Go.Proofs.Ytemfnlidinnniaa.AD
open Go.Proofs
set_option linter.unusedVariables false
set_option linter.unusedSimpArgs false
set_option maxRecDepth 100000

theorem digF_app {x : List UInt8} : ∀ (m v : Nat) (l bs : List UInt8) (n : Nat), digF m v l = .ok bs n → digF m v (l ++ x) = .ok bs n
  | 0, v, l, bs, n, h => by simp only [digF] at h ⊢; exact h
  | m + 1, v, [], bs, n, h => by cases h
  | m + 1, v, c :: r, bs, n, h => by
    simp only [List.cons_append, digF] at h ⊢
    split at h
    · cases h
    · rename_i ho
      rw [if_neg ho]
      exact digF_app m _ r bs n h
theorem digF_take : ∀ (m v : Nat) (l bs : List UInt8) (n M : Nat), digF m v l = .ok bs n → m ≤ M → digF m v (l.take M) = .ok bs n
  | 0, v, l, bs, n, M, h, _ => by simp only [digF] at h ⊢; exact h
  | m + 1, v, [], bs, n, M, h, _ => by cases h
  | m + 1, v, c :: r, bs, n, 0, h, hm => by omega
  | m + 1, v, c :: r, bs, n, M + 1, h, hm => by
    simp only [List.take_succ_cons, digF] at h ⊢
    split at h
    · cases h
    · rename_i ho
      rw [if_neg ho]
      exact digF_take m _ r bs n M h (by omega)

theorem pieceP_app {x r bs : List UInt8} {n : Nat} (h : pieceP r = .ok bs n) (hn : n < r.length) : pieceP (r ++ x) = .ok bs n := by
  cases r with
  | nil => cases h
  | cons c r =>
    simp only [List.cons_append, pieceP, List.length_cons] at h hn ⊢
    split at h
    · rename_i k; rw [if_pos k]; exact h
    rename_i k1; rw [if_neg k1]
    split at h
    · rename_i k; rw [if_pos k]; exact h
    rename_i k2; rw [if_neg k2]
    split at h
    · rename_i k; rw [if_pos k]; exact h
    rename_i k3; rw [if_neg k3]
    split at h
    · rename_i k; rw [if_pos k]; exact h
    rename_i k4; rw [if_neg k4]
    split at h
    · rename_i k; rw [if_pos k]
      cases h
      rw [whileL_lt r (by omega)]
    · rename_i k5; rw [if_neg k5]
      exact digF_app 3 0 (c :: r) bs n h
theorem pieceP_take {r bs : List UInt8} {n M : Nat} (h : pieceP r = .ok bs n) (hn : n < M) : pieceP (r.take M) = .ok bs n := by
  cases r with
  | nil => cases h
  | cons c r =>
    obtain ⟨M, rfl⟩ : ∃ k, M = k + 1 := ⟨M - 1, by omega⟩
    simp only [List.take_succ_cons, pieceP] at h ⊢
    split at h
    · rename_i k; rw [if_pos k]; exact h
    rename_i k1; rw [if_neg k1]
    split at h
    · rename_i k; rw [if_pos k]; exact h
    rename_i k2; rw [if_neg k2]
    split at h
    · rename_i k; rw [if_pos k]; exact h
    rename_i k3; rw [if_neg k3]
    split at h
    · rename_i k; rw [if_pos k]; exact h
    rename_i k4; rw [if_neg k4]
    split at h
    · rename_i k; rw [if_pos k]
      cases h
      rw [whileL_take r M (by omega)]
    · rename_i k5; rw [if_neg k5]
      obtain ⟨_, h3⟩ := digF_len 3 0 _ bs n h
      have := digF_take 3 0 (c :: r) bs n (M + 1) h (by omega)
      rwa [List.take_succ_cons] at this

theorem strP_app {x : List UInt8} : ∀ (f : Nat) (l : List UInt8) (i : Nat) (b : List UInt8) (k : Int) (t : ByteArray) (len : Nat), strP f l i b = .tok k t len → strP f (l ++ x) i b = .tok k t len
  | 0, l, i, b, k, t, len, h => by cases h
  | f + 1, [], i, b, k, t, len, h => by cases h
  | f + 1, c :: r, i, b, k, t, len, h => by
    simp only [List.cons_append, strP] at h ⊢
    split at h
    · cases h
    rename_i k1; rw [if_neg k1]
    split at h
    · rename_i k2; rw [if_pos k2]; exact h
    rename_i k2; rw [if_neg k2]
    split at h
    · rename_i k3; rw [if_pos k3]
      split at h
      · rename_i bs n hp
        obtain ⟨p1, p2⟩ := pieceP_len hp
        have hl := strP_len _ _ _ _ _ _ _ h
        rw [List.length_drop] at hl
        rw [pieceP_app hp (by omega)]
        simp only
        rw [List.drop_append_of_le_length p2]
        exact strP_app f _ _ _ k t len h
      · cases h
      · cases h
    · rename_i k3; rw [if_neg k3]
      exact strP_app f r _ _ k t len h
theorem strP_take : ∀ (f : Nat) (l : List UInt8) (i : Nat) (b : List UInt8) (k : Int) (t : ByteArray) (len : Nat), strP f l i b = .tok k t len → strP f (l.take (len - i)) i b = .tok k t len
  | 0, l, i, b, k, t, len, h => by cases h
  | f + 1, [], i, b, k, t, len, h => by cases h
  | f + 1, c :: r, i, b, k, t, len, h => by
    have hl0 := strP_len _ _ _ _ _ _ _ h
    obtain ⟨M, hM⟩ : ∃ m, len - i = m + 1 := ⟨len - i - 1, by omega⟩
    rw [hM, List.take_succ_cons]
    simp only [strP] at h ⊢
    split at h
    · cases h
    rename_i k1; rw [if_neg k1]
    split at h
    · rename_i k2; rw [if_pos k2]; exact h
    rename_i k2; rw [if_neg k2]
    split at h
    · rename_i k3; rw [if_pos k3]
      split at h
      · rename_i bs n hp
        obtain ⟨p1, p2⟩ := pieceP_len hp
        have hl := strP_len _ _ _ _ _ _ _ h
        rw [pieceP_take hp (by omega)]
        simp only
        have q := strP_take f _ _ _ k t len h
        rw [List.drop_take, show M - n = len - (i + 1 + n) by omega]
        exact q
      · cases h
      · cases h
    · rename_i k3; rw [if_neg k3]
      have q := strP_take f r _ _ k t len h
      rw [show M = len - (i + 1) by omega]
      exact q

theorem twos_any {l l' : List UInt8} (h : ∀ p, p ∈ twos → preB p.data.toList l' = preB p.data.toList l) : (twos.any fun p => preB p.data.toList l') = twos.any fun p => preB p.data.toList l := by
  rw [Bool.eq_iff_iff, List.any_eq_true, List.any_eq_true]
  exact ⟨fun ⟨p, h1, h2⟩ => ⟨p, h1, by rw [← h p h1]; exact h2⟩, fun ⟨p, h1, h2⟩ => ⟨p, h1, by rw [h p h1]; exact h2⟩⟩
theorem signL_app {x : List UInt8} (hx : sepH x) (c : UInt8) (r : List UInt8) : signL (c :: r ++ x) = signL (c :: r) := by
  unfold signL
  rw [twos_any fun p hp => preB_app (twos_sep p hp).1 hx (c :: r)]
  rfl
theorem signL_take (c : UInt8) (r : List UInt8) (h : 0 < signL (c :: r)) : signL ((c :: r).take (signL (c :: r))) = signL (c :: r) := by
  generalize hn : signL (c :: r) = n at h
  cases ha : twos.any fun p => preB p.data.toList (c :: r) with
  | true =>
    have : n = 2 := by rw [← hn, signL, ha]; rfl
    subst this
    have h2 : (twos.any fun p => preB p.data.toList ((c :: r).take 2)) = true := by
      rw [twos_any fun p hp => preB_take (by rw [(twos_sep p hp).2]; exact Nat.le_refl _)]
      exact ha
    unfold signL
    rw [h2]; rfl
  | false =>
    have h1 : n = if 0 ≤ Lib.indexByte ones.data.toList c then 1 else 0 := by rw [← hn, signL, ha]; rfl
    have hone : n = 1 := by
      rw [h1] at h ⊢
      split at h
      · rename_i k; rw [if_pos k]
      · omega
    subst hone
    have h2 : (twos.any fun p => preB p.data.toList [c]) = false := by
      rw [List.any_eq_false]
      intro p hp hb
      have := preB_len hb
      rw [(twos_sep p hp).2] at this
      simp at this
    show signL [c] = 1
    unfold signL
    rw [h2]
    exact h1.symm

theorem signL_not (c : UInt8) (r : List UInt8) (h : c = 35 ∨ sepC c) : lett c = false ∧ dig c = false ∧ c ≠ 34 ∧ signL (c :: r) = 0 := by
  have hs : c = 35 ∨ c = 32 ∨ c = 9 ∨ c = 13 ∨ c = 10 := h
  have ht : (twos.any fun p => preB p.data.toList (c :: r)) = false := by
    rw [List.any_eq_false]
    intro p hp hb
    rw [preB, decide_eq_true_eq] at hb
    have hl := (twos_sep p hp).2
    rw [hl] at hb
    simp only [twos, List.mem_cons, List.mem_nil_iff, or_false] at hp
    have hh : p.data.toList.head? = some c := by rw [← hb]; rfl
    rcases hp with rfl | rfl | rfl | rfl | rfl | rfl | rfl | rfl <;> (simp at hh; subst hh; revert hs; decide)
  have h1 : lett c = false ∧ dig c = false ∧ c ≠ 34 := by rcases hs with rfl | rfl | rfl | rfl | rfl <;> decide
  refine ⟨h1.1, h1.2.1, h1.2.2, ?_⟩
  unfold signL
  rw [ht]
  show (if 0 ≤ Lib.indexByte ones.data.toList c then 1 else 0) = 0
  rcases hs with rfl | rfl | rfl | rfl | rfl <;> decide

/-- What begins a token is no blank. -/
theorem nextP_head {c : UInt8} {r : List UInt8} {k : Int} {t : ByteArray} {len : Nat} (h : nextP (c :: r) = .tok k t len) (r' : List UInt8) : skipF false (c :: r') = 0 := by
  by_cases hc : c = 35 ∨ sepC c
  · obtain ⟨h1, h2, h3, h4⟩ := signL_not c r hc
    simp only [nextP] at h
    rw [if_neg (by rw [h1]; simp), if_neg (by rw [h2]; simp), if_neg h3, if_neg (by omega)] at h
    cases h
  · simp only [skipF]
    rw [if_neg (fun e => hc (.inl e))]
    exact if_neg (fun e => hc (.inr e))

theorem nextP_app {x : List UInt8} (hx : sepH x) {c : UInt8} {r : List UInt8} {k : Int} {t : ByteArray} {len : Nat} (h : nextP (c :: r) = .tok k t len) : nextP (c :: r ++ x) = .tok k t len := by
  obtain ⟨_, hlen⟩ := nextP_len c r h
  have hta : ∀ m, m ≤ (c :: r).length → (c :: r ++ x).take m = (c :: r).take m := fun m hm => List.take_append_of_le_length hm
  simp only [List.cons_append] at hta ⊢
  simp only [nextP] at h ⊢
  split at h
  · rename_i k1; rw [if_pos k1]
    cases h
    have hw : whileL nam (c :: (r ++ x)) = whileL nam (c :: r) := whileL_app (p := nam) (x := x) (fun g y e => (sep_nam (hx g y e)).2.2.1) (c :: r)
    rw [hw, hta _ (whileL_le nam (c :: r))]
  rename_i k1; rw [if_neg k1]
  split at h
  · rename_i k2; rw [if_pos k2]
    cases h
    have hw : numL (c :: (r ++ x)) = numL (c :: r) := numL_app hx (c :: r)
    obtain ⟨n1, n2, n3⟩ := numL_len c r k2
    rw [hw, hta _ (by omega)]
  rename_i k2; rw [if_neg k2]
  split at h
  · rename_i k3; rw [if_pos k3]
    have h2 : strP ((r ++ x).length + 1) r 1 [] = .tok k t len := by
      rw [← h]; exact strP_fuel _ _ _ _ _ (by rw [List.length_append]; omega) (by omega)
    exact strP_app _ _ _ _ _ _ _ h2
  rename_i k3; rw [if_neg k3]
  split at h
  · rename_i k4
    cases h
    have hw : signL (c :: (r ++ x)) = signL (c :: r) := signL_app hx c r
    rw [hw, if_pos k4, hta _ (signL_le c r)]
  · cases h

theorem nextP_take {c : UInt8} {r : List UInt8} {k : Int} {t : ByteArray} {len : Nat} (h : nextP (c :: r) = .tok k t len) : nextP ((c :: r).take len) = .tok k t len := by
  obtain ⟨h1, hlen⟩ := nextP_len c r h
  have htt : ∀ m, m ≤ len → ((c :: r).take len).take m = (c :: r).take m := fun m hm => by rw [List.take_take, Nat.min_eq_left hm]
  obtain ⟨M, rfl⟩ : ∃ m, len = m + 1 := ⟨len - 1, by omega⟩
  simp only [List.take_succ_cons] at htt ⊢
  simp only [nextP] at h ⊢
  split at h
  · rename_i k1; rw [if_pos k1]
    have hlen2 : whileL nam (c :: r) = M + 1 := by simp only [NR.tok.injEq] at h; exact h.2.2
    have hw : whileL nam (c :: r.take M) = whileL nam (c :: r) := by
      have := whileL_take (p := nam) (c :: r) (M + 1) (by omega)
      rwa [List.take_succ_cons] at this
    rw [hw]
    rw [← h, htt _ (by omega)]
  rename_i k1; rw [if_neg k1]
  split at h
  · rename_i k2; rw [if_pos k2]
    have hlen2 : (numL (c :: r)).2.2 = M + 1 := by simp only [NR.tok.injEq] at h; exact h.2.2
    have hw : numL (c :: r.take M) = numL (c :: r) := by
      have := numL_take (c :: r)
      rw [hlen2, List.take_succ_cons] at this
      exact this
    obtain ⟨n1, n2, n3⟩ := numL_len c r k2
    rw [hw, ← h, htt _ (by omega)]
  rename_i k2; rw [if_neg k2]
  split at h
  · rename_i k3; rw [if_pos k3]
    have q := strP_take _ _ _ _ _ _ _ h
    rw [Nat.add_sub_cancel] at q
    rw [← q]
    exact strP_fuel _ _ _ _ _ (by omega) (by rw [List.length_take]; omega)
  rename_i k3; rw [if_neg k3]
  split at h
  · rename_i k4
    have hlen2 : signL (c :: r) = M + 1 := by simp only [NR.tok.injEq] at h; exact h.2.2
    have hw : signL (c :: r.take M) = signL (c :: r) := by
      have := signL_take c r k4
      rw [hlen2, List.take_succ_cons] at this
      rw [this, hlen2]
    rw [hw, if_pos k4, ← h, htt _ (by omega)]
  · cases h

end Go.Proofs.Ytemfnlidinnniaa.AD

namespace Go.Proofs.Ytemfnlidinnniaa.AD
open Go.Proofs
set_option linter.unusedVariables false
set_option linter.unusedSimpArgs false
set_option maxRecDepth 100000

def blkP : Bool → List UInt8 → Bool
  | _, [] => true
  | b, c :: r => if c = 10 then blkP false r else if b = true ∨ c = 35 then blkP true r else if c = 9 ∨ c = 13 ∨ c = 32 then blkP false r else false

theorem blk_skip : ∀ (l : List UInt8) (b : Bool), blkP b (l.take (skipF b l)) = true
  | [], b => by simp [blkP]
  | c :: r, true => by
    have h1 := blk_skip r true
    have h2 := blk_skip r false
    simp only [skipF]
    split
    · rename_i h; simp only [List.take_succ_cons, blkP, if_pos h]; exact h2
    · rename_i h; simp only [List.take_succ_cons, blkP, if_neg h, true_or, if_true]; exact h1
  | c :: r, false => by
    have h1 := blk_skip r true
    have h2 := blk_skip r false
    simp only [skipF]
    split
    · rename_i h
      simp only [List.take_succ_cons, blkP]
      rw [if_neg (by rw [h]; decide), if_pos (.inr h)]
      exact h1
    · rename_i h
      split
      · rename_i h3
        simp only [List.take_succ_cons, blkP]
        split
        · exact h2
        · rename_i h4
          rw [if_neg (by rintro (e | e); cases e; exact h e), if_pos (by rcases h3 with h3 | h3 | h3 | h3 <;> first | exact .inr (.inr h3) | exact .inl h3 | exact .inr (.inl h3) | exact absurd h3 h4)]
          exact h2
      · simp [blkP]

theorem eqCells_tok (k : Int) (t : ByteArray) (a e : Int) : eqCells [.int .u8, .str, .int .i64, .int .i64] [.int .u8 k, .str t, .int .i64 a, .int .i64 e] [.int .u8 k, .str t, .int .i64 a, .int .i64 e] = some true := by
  simp [eqCells]

def wTok : List Tok := [⟨1, ⟨#[97, 49]⟩, 0, 2⟩, ⟨6, ⟨#[45, 62]⟩, 3, 5⟩, ⟨4, ⟨#[98]⟩, 6, 9⟩, ⟨6, ⟨#[59]⟩, 9, 10⟩]
theorem works_tok : tokensR ⟨#[97, 49, 32, 45, 62, 32, 34, 98, 34, 59, 32, 35, 32, 99]⟩ = .ok wTok := by kernel_rfl
end Go.Proofs.Ytemfnlidinnniaa.AD

namespace Go.Proofs.Ytemfnlidinnniaa.AD
open Go.Proofs
set_option linter.unusedVariables false
set_option linter.unusedSimpArgs false
set_option maxRecDepth 100000

theorem tokG_err : ∀ (f : Nat) (l : List UInt8) (q : Nat) (acc : List Tok) (p : Nat) (e : Int), l.length < f → tokG f l q acc = .err p e → (e = 3 ∨ e = 140 ∨ e = 141 ∨ e = 142) ∧ p ≤ q + l.length
  | 0, l, q, acc, p, e, h, _ => by omega
  | f + 1, [], q, acc, p, e, _, h => by cases h
  | f + 1, c :: r, q, acc, p, e, hf, h => by
    simp only [tokG] at h
    split at h
    · cases h; exact ⟨.inl rfl, by omega⟩
    split at h
    · rename_i o e' hN
      obtain ⟨h1, h2⟩ := nextP_err c r hN
      cases h
      simp only [List.length_cons]
      exact ⟨.inr h1, by omega⟩
    · rename_i k t len hN
      obtain ⟨h1, h2⟩ := nextP_len c r hN
      have hs := skipF_le ((c :: r).drop len) false
      have hl : (((c :: r).drop len).drop (skipF false ((c :: r).drop len))).length = (c :: r).length - len - skipF false ((c :: r).drop len) := by rw [List.length_drop, List.length_drop]
      rw [List.length_drop] at hs
      simp only [List.length_cons] at hf h2 hs hl ⊢
      obtain ⟨h3, h4⟩ := tokG_err f _ _ _ p e (by omega) h
      exact ⟨h3, by omega⟩

theorem tokensR_err {s : ByteArray} {p : Nat} {e : Int} (h : tokensR s = .err p e) : (e = 3 ∨ e = 140 ∨ e = 141 ∨ e = 142) ∧ p ≤ s.size := by
  unfold tokensR at h
  split at h
  · cases h; exact ⟨.inl rfl, by omega⟩
  · have hs := skipF_le s.data.toList false
    have := tokG_err _ _ _ _ p e (by rw [List.length_drop, ← ba_size]; omega) h
    rw [List.length_drop, ← ba_size] at this
    rw [← ba_size] at hs
    exact ⟨this.1, by omega⟩

/-- A token alone. -/
theorem tok_alone {c : UInt8} {r : List UInt8} {k : Int} {t : ByteArray} {len : Nat} (h : nextP (c :: r) = .tok k t len) (hb : len ≤ 65536) : tokensR (ofL ((c :: r).take len)) = .ok [⟨k, t, 0, len⟩] := by
  obtain ⟨h1, h2⟩ := nextP_len c r h
  have hsz : (ofL ((c :: r).take len)).size = len := by rw [ba_size, ofL_data, List.length_take]; omega
  unfold tokensR
  rw [hsz, if_neg (by omega), ofL_data]
  have ht := nextP_take h
  obtain ⟨M, rfl⟩ : ∃ m, len = m + 1 := ⟨len - 1, by omega⟩
  rw [List.take_succ_cons] at ht ⊢
  rw [nextP_head h, List.drop_zero]
  simp only [tokG, List.length_nil]
  rw [if_neg (by omega), ht]
  simp only
  have hd : (c :: r.take M).drop (M + 1) = [] := List.drop_eq_nil_iff.2 (by simp only [List.length_cons, List.length_take]; omega)
  rw [hd, List.drop_nil]
  simp [tokG]

/-- Tokens one behind the other, from a place on. -/
def Tile (L : List UInt8) : Nat → List Tok → Prop
  | e, [] => blkP false (L.drop e) = true
  | e, x :: r => (e ≤ x.a ∧ x.a < x.e ∧ x.e ≤ L.length) ∧ blkP false ((L.take x.a).drop e) = true ∧ tokensR (ofL ((L.take x.e).drop x.a)) = .ok [⟨x.k, x.t, 0, x.e - x.a⟩] ∧ Tile L x.e r

theorem blk_to (L : List UInt8) (e : Nat) : blkP false ((L.take (e + skipF false (L.drop e))).drop e) = true := by
  rw [List.drop_take, Nat.add_sub_cancel_left]
  exact blk_skip _ _

theorem tile_of (L : List UInt8) (hL : L.length ≤ 65536) : ∀ (f : Nat) (l : List UInt8) (q : Nat) (acc : List Tok) (e : Nat) (ts : List Tok), tokG f l q acc = .ok ts → L.drop q = l → q = e + skipF false (L.drop e) → e ≤ L.length → ∃ us, ts = acc ++ us ∧ Tile L e us
  | 0, l, q, acc, e, ts, h, _, _, _ => by cases h
  | f + 1, [], q, acc, e, ts, h, hd, hq, he => by
    cases h
    refine ⟨[], by simp, ?_⟩
    show blkP false (L.drop e) = true
    have h1 := blk_to L e
    rw [← hq] at h1
    have := List.drop_eq_nil_iff.1 hd
    rwa [List.take_of_length_le this] at h1
  | f + 1, c :: r, q, acc, e, ts, h, hd, hq, he => by
    simp only [tokG] at h
    split at h
    · cases h
    split at h
    · cases h
    · rename_i k t len hN
      obtain ⟨h1, h2⟩ := nextP_len c r hN
      have hlen : q + (c :: r).length = L.length := by
        have := congrArg List.length hd
        rw [List.length_drop] at this
        have h3 : 0 < (c :: r).length := by simp
        omega
      have hd2 : L.drop (q + len) = (c :: r).drop len := by rw [← List.drop_drop, hd]
      obtain ⟨us, rfl, hus⟩ := tile_of L hL f _ _ _ (q + len) ts h (by rw [← List.drop_drop, hd2]) (by rw [hd2]) (by omega)
      refine ⟨⟨k, t, q, q + len⟩ :: us, by simp, ⟨by show e ≤ q; omega, by show q < q + len; omega, by show q + len ≤ L.length; omega⟩, ?_, ?_, hus⟩
      · show blkP false ((L.take q).drop e) = true
        have h3 := blk_to L e
        rwa [← hq] at h3
      · show tokensR (ofL ((L.take (q + len)).drop q)) = .ok [⟨k, t, 0, q + len - q⟩]
        rw [List.drop_take, hd, Nat.add_sub_cancel_left]
        exact tok_alone hN (by omega)

theorem tokG_len : ∀ (f : Nat) (l : List UInt8) (q : Nat) (acc ts : List Tok), acc.length ≤ 8192 → tokG f l q acc = .ok ts → ts.length ≤ 8192
  | 0, l, q, acc, ts, _, h => by cases h
  | f + 1, [], q, acc, ts, ha, h => by cases h; exact ha
  | f + 1, c :: r, q, acc, ts, ha, h => by
    simp only [tokG] at h
    split at h
    · cases h
    split at h
    · cases h
    · exact tokG_len f _ _ _ ts (by simp; omega) h
theorem tokensR_len {s : ByteArray} {ts : List Tok} (h : tokensR s = .ok ts) : ts.length ≤ 8192 := by
  unfold tokensR at h
  split at h
  · cases h
  · exact tokG_len _ _ _ [] ts (by simp) h

theorem tokensR_tile {s : ByteArray} {ts : List Tok} (h : tokensR s = .ok ts) : s.size ≤ 65536 ∧ Tile s.data.toList 0 ts := by
  unfold tokensR at h
  split at h
  · cases h
  · obtain ⟨us, e, hus⟩ := tile_of s.data.toList (by rw [← ba_size]; omega) _ _ _ _ 0 ts h rfl (by simp) (Nat.zero_le _)
    rw [List.nil_append] at e
    subst e
    exact ⟨by omega, hus⟩

end Go.Proofs.Ytemfnlidinnniaa.AD

namespace Go.Proofs.Ytemfnlidinnniaa.AD
open Go.Proofs
set_option linter.unusedVariables false
set_option linter.unusedSimpArgs false
set_option maxRecDepth 100000

/-- The tokens of a text that begins with one. -/
inductive Toks : List UInt8 → Nat → List Tok → Prop
  | nil (q : Nat) : Toks [] q []
  | cons (c : UInt8) (r : List UInt8) (q : Nat) (k : Int) (t : ByteArray) (len : Nat) (us : List Tok) : nextP (c :: r) = .tok k t len →
      Toks (((c :: r).drop len).drop (skipF false ((c :: r).drop len))) (q + len + skipF false ((c :: r).drop len)) us → Toks (c :: r) q (⟨k, t, q, q + len⟩ :: us)
def TokS (l : List UInt8) (q : Nat) (us : List Tok) : Prop := Toks (l.drop (skipF false l)) (q + skipF false l) us

theorem toks_of : ∀ (f : Nat) (l : List UInt8) (q : Nat) (acc ts : List Tok), tokG f l q acc = .ok ts → ∃ us, ts = acc ++ us ∧ Toks l q us
  | 0, l, q, acc, ts, h => by cases h
  | f + 1, [], q, acc, ts, h => by cases h; exact ⟨[], by simp, .nil q⟩
  | f + 1, c :: r, q, acc, ts, h => by
    simp only [tokG] at h
    split at h
    · cases h
    split at h
    · cases h
    · rename_i k t len hN
      obtain ⟨us, rfl, h2⟩ := toks_of f _ _ _ ts h
      exact ⟨⟨k, t, q, q + len⟩ :: us, by simp, .cons c r q k t len us hN h2⟩
theorem tokG_of {l : List UInt8} {q : Nat} {us : List Tok} (h : Toks l q us) : ∀ (f : Nat) (acc : List Tok), acc.length + us.length ≤ 8192 → l.length < f → tokG f l q acc = .ok (acc ++ us) := by
  induction h with
  | nil q =>
    intro f acc hl hf
    obtain ⟨f, rfl⟩ : ∃ g, f = g + 1 := ⟨f - 1, by omega⟩
    simp [tokG]
  | cons c r q k t len us hN h2 ih =>
    intro f acc hl hf
    obtain ⟨f, rfl⟩ : ∃ g, f = g + 1 := ⟨f - 1, by omega⟩
    simp only [List.length_cons] at hl
    obtain ⟨h1, h3⟩ := nextP_len c r hN
    simp only [tokG]
    rw [if_neg (by omega), hN]
    simp only
    rw [ih f (acc ++ [(⟨k, t, q, q + len⟩ : Tok)]) (by rw [List.length_append]; simp only [List.length_cons, List.length_nil]; omega) (by rw [List.length_drop, List.length_drop]; simp only [List.length_cons] at hf h3 ⊢; omega)]
    simp
theorem tokS_of {s : ByteArray} {ts : List Tok} (h : tokensR s = .ok ts) : TokS s.data.toList 0 ts := by
  unfold tokensR at h
  split at h
  · cases h
  · obtain ⟨us, e, h2⟩ := toks_of _ _ _ _ _ h
    rw [List.nil_append] at e
    subst e
    rw [TokS, Nat.zero_add]
    exact h2
theorem tokensR_of {s : ByteArray} {ts : List Tok} (hs : s.size ≤ 65536) (ht : ts.length ≤ 8192) (h : TokS s.data.toList 0 ts) : tokensR s = .ok ts := by
  unfold tokensR
  rw [if_neg (by omega)]
  rw [TokS, Nat.zero_add] at h
  rw [tokG_of h (s.size + 1) [] (by simpa using ht) (by rw [List.length_drop, ← ba_size]; omega)]
  rfl

def shT (d : Nat) (x : Tok) : Tok := ⟨x.k, x.t, x.a + d, x.e + d⟩
theorem toks_shift (d : Nat) {l : List UInt8} {q : Nat} {us : List Tok} (h : Toks l q us) : Toks l (q + d) (us.map (shT d)) := by
  induction h with
  | nil q => exact .nil _
  | cons c r q k t len us hN h2 ih =>
    have := Toks.cons c r (q + d) k t len (us.map (shT d)) hN (by rw [show q + d + len + skipF false ((c :: r).drop len) = q + len + skipF false ((c :: r).drop len) + d by omega]; exact ih)
    rw [List.map_cons, shT]
    simp only
    rw [show q + len + d = q + d + len by omega]
    exact this

theorem skip_app (y : List UInt8) : ∀ (l : List UInt8) (b : Bool), (skipF b l < l.length → skipF b (l ++ 10 :: y) = skipF b l) ∧ (skipF b l = l.length → skipF b (l ++ 10 :: y) = l.length + 1 + skipF false y)
  | [], b => by
    refine ⟨fun h => by simp at h, fun _ => ?_⟩
    cases b
    · simp [skipF]; omega
    · simp [skipF]; omega
  | c :: r, true => by
    obtain ⟨h1, h2⟩ := skip_app y r false
    obtain ⟨h3, h4⟩ := skip_app y r true
    simp only [List.cons_append, skipF, List.length_cons]
    split
    · exact ⟨fun h => by rw [h1 (by omega)], fun h => by rw [h2 (by omega)]; omega⟩
    · exact ⟨fun h => by rw [h3 (by omega)], fun h => by rw [h4 (by omega)]; omega⟩
  | c :: r, false => by
    obtain ⟨h1, h2⟩ := skip_app y r false
    obtain ⟨h3, h4⟩ := skip_app y r true
    simp only [List.cons_append, skipF, List.length_cons]
    split
    · exact ⟨fun h => by rw [h3 (by omega)], fun h => by rw [h4 (by omega)]; omega⟩
    split
    · exact ⟨fun h => by rw [h1 (by omega)], fun h => by rw [h2 (by omega)]; omega⟩
    · exact ⟨fun h => rfl, fun h => by omega⟩

theorem sep10 (y : List UInt8) : sepH (10 :: y) := fun h z e => by cases e; exact .inr (.inr (.inr rfl))

theorem tokS_join (y : List UInt8) (vs : List Tok) : ∀ (us : List Tok) (l : List UInt8) (q : Nat), TokS l q us → TokS y (q + l.length + 1) vs → TokS (l ++ 10 :: y) q (us ++ vs) := by
  intro us
  induction us with
  | nil =>
    intro l q h hy
    have hle := skipF_le l false
    have he : l.drop (skipF false l) = [] := by
      unfold TokS at h
      generalize hd : l.drop (skipF false l) = d at h
      cases h; rfl
    have hl := List.drop_eq_nil_iff.1 he
    have hs := (skip_app y l false).2 (by omega)
    unfold TokS at hy ⊢
    rw [hs, List.nil_append, show l.length + 1 + skipF false y = l.length + (1 + skipF false y) by omega, ← List.drop_drop, List.drop_left, ← List.drop_drop]
    rw [show q + (l.length + (1 + skipF false y)) = q + l.length + 1 + skipF false y by omega]
    exact hy
  | cons x us ih =>
    intro l q h hy
    have hle := skipF_le l false
    unfold TokS at h
    generalize hd : l.drop (skipF false l) = d at h
    cases h with
    | cons c r q' k t len _ hN h2 =>
      have hlen : skipF false l + (c :: r).length = l.length := by
        have := congrArg List.length hd
        rw [List.length_drop] at this
        omega
      have hs := (skip_app y l false).1 (by simp only [List.length_cons] at hlen; omega)
      have hN2 := nextP_app (sep10 y) hN
      obtain ⟨n1, n2⟩ := nextP_len c r hN
      have q2 := ih ((c :: r).drop len) (q + skipF false l + len) h2 (by rw [List.length_drop, show q + skipF false l + len + ((c :: r).length - len) + 1 = q + l.length + 1 by omega]; exact hy)
      unfold TokS at q2 ⊢
      rw [hs, List.drop_append_of_le_length hle, hd]
      refine .cons c (r ++ 10 :: y) (q + skipF false l) k t len (us ++ vs) hN2 ?_
      have he : (c :: (r ++ 10 :: y)).drop len = (c :: r).drop len ++ 10 :: y := by rw [← List.cons_append]; exact List.drop_append_of_le_length n2
      rw [he]
      exact q2

theorem tokens_join {a b : ByteArray} {l m : List Tok} (ha : tokensR a = .ok l) (hb : tokensR b = .ok m) (sa : a.size ≤ 32767) (sb : b.size ≤ 32767) (hl : l.length ≤ 4096) (hm : m.length ≤ 4096) (s : ByteArray)
    (hs : s.data.toList = a.data.toList ++ 10 :: b.data.toList) : tokensR s = .ok (l ++ m.map (shT (a.size + 1))) := by
  have h1 := tokS_of ha
  have h2 := toks_shift (a.size + 1) (tokS_of hb)
  refine tokensR_of (by rw [ba_size, hs, List.length_append, List.length_cons, ← ba_size, ← ba_size]; omega) (by rw [List.length_append, List.length_map]; omega) ?_
  rw [hs]
  refine tokS_join _ _ _ _ _ h1 ?_
  unfold TokS
  rw [← ba_size, show 0 + a.size + 1 + skipF false b.data.toList = 0 + skipF false b.data.toList + (a.size + 1) by omega]
  exact h2

/-- A token's bytes, alone. -/
def Alone (L : List UInt8) (x : Tok) : Prop := ∃ c w, (L.take x.e).drop x.a = c :: w ∧ nextP (c :: w) = .tok x.k x.t (x.e - x.a) ∧ x.e = x.a + (c :: w).length ∧ x.e ≤ L.length
theorem toks_alone (L : List UInt8) : ∀ (us : List Tok) (l : List UInt8) (q : Nat), Toks l q us → L.drop q = l → ∀ x, x ∈ us → Alone L x ∧ q ≤ x.a := by
  intro us
  induction us with
  | nil => intro l q h hd x hx; cases hx
  | cons u us ih =>
    intro l q h hd x hx
    cases h with
    | cons c r _ k t len _ hN h2 =>
      obtain ⟨n1, n2⟩ := nextP_len c r hN
      have hlen : q + (c :: r).length = L.length := by
        have := congrArg List.length hd
        rw [List.length_drop] at this
        have h3 : 0 < (c :: r).length := by simp
        omega
      rcases List.mem_cons.1 hx with rfl | hx
      · refine ⟨⟨c, r.take (len - 1), ?_, ?_, ?_, ?_⟩, Nat.le_refl _⟩
        · show (L.take (q + len)).drop q = _
          rw [List.drop_take, hd, Nat.add_sub_cancel_left]
          obtain ⟨M, rfl⟩ : ∃ m, len = m + 1 := ⟨len - 1, by omega⟩
          rfl
        · show nextP _ = .tok k t (q + len - q)
          rw [Nat.add_sub_cancel_left]
          have := nextP_take hN
          obtain ⟨M, rfl⟩ : ∃ m, len = m + 1 := ⟨len - 1, by omega⟩
          exact this
        · show q + len = q + _
          simp only [List.length_cons, List.length_take] at n2 ⊢
          omega
        · show q + len ≤ _
          omega
      · obtain ⟨a1, a2⟩ := ih _ _ h2 (by rw [show q + len + skipF false ((c :: r).drop len) = q + (len + skipF false ((c :: r).drop len)) by omega, ← List.drop_drop, hd, ← List.drop_drop]) x hx
        exact ⟨a1, by omega⟩

def bodyOf (L : List UInt8) (x : Tok) : List UInt8 := (L.take x.e).drop x.a
/-- A text spread. -/
def sprL (L more : List UInt8) : List Tok → List UInt8
  | [] => more
  | x :: us => more ++ (bodyOf L x ++ sprL L more us)
def reT (ml : Nat) : Nat → List Tok → List Tok
  | _, [] => []
  | p, x :: us => ⟨x.k, x.t, p + ml, p + ml + (x.e - x.a)⟩ :: reT ml (p + ml + (x.e - x.a)) us
theorem reT_len (ml : Nat) : ∀ (us : List Tok) (p : Nat), (reT ml p us).length = us.length
  | [], p => rfl
  | x :: us, p => by simp [reT, reT_len ml us]

theorem tokS_spread (L more : List UInt8) (hm : ∀ y, skipF false (more ++ y) = more.length + skipF false y) (hh : ∀ y, sepH (more ++ y)) : ∀ (us : List Tok) (q : Nat), (∀ x, x ∈ us → Alone L x) → TokS (sprL L more us) q (reT more.length q us)
  | [], q, _ => by
    have := hm []
    rw [List.append_nil] at this
    unfold TokS sprL reT
    rw [this]
    simp only [skipF, Nat.add_zero, List.drop_length]
    exact .nil _
  | x :: us, q, h => by
    obtain ⟨c, w, h1, h2, h3, h4⟩ := h x (List.mem_cons_self ..)
    have ih := tokS_spread L more hm hh us (q + more.length + (x.e - x.a)) fun z hz => h z (List.mem_cons_of_mem _ hz)
    have hN : nextP (c :: w ++ sprL L more us) = .tok x.k x.t (x.e - x.a) := nextP_app (by
      cases us with
      | nil => have := hh []; rwa [List.append_nil] at this
      | cons => exact hh _) h2
    unfold TokS at ih ⊢
    unfold sprL reT
    rw [hm, bodyOf, h1, List.cons_append, nextP_head hN, Nat.add_zero, List.drop_left]
    refine .cons c (w ++ sprL L more us) (q + more.length) x.k x.t (x.e - x.a) _ hN ?_
    have hd : (c :: (w ++ sprL L more us)).drop (x.e - x.a) = sprL L more us := by
      rw [← List.cons_append, show x.e - x.a = (c :: w).length by omega, List.drop_left]
    rw [hd]
    exact ih

/-- How long the tokens' bytes are together. -/
def sumT : List Tok → Nat
  | [] => 0
  | x :: us => (x.e - x.a) + sumT us
theorem sprL_len (L more : List UInt8) : ∀ us : List Tok, (∀ x, x ∈ us → Alone L x) → (sprL L more us).length = (us.length + 1) * more.length + sumT us
  | [], _ => by simp [sprL, sumT]
  | x :: us, h => by
    obtain ⟨c, w, h1, h2, h3, h4⟩ := h x (List.mem_cons_self ..)
    have := sprL_len L more us fun z hz => h z (List.mem_cons_of_mem _ hz)
    rw [sprL, List.length_append, List.length_append, this, bodyOf, h1, sumT, List.length_cons (a := x), Nat.succ_mul, Nat.succ_mul, Nat.succ_mul]
    omega
theorem sumT_le : ∀ (us : List Tok) (L : List UInt8) (e : Nat), Tile L e us → e ≤ L.length → e + sumT us ≤ L.length
  | [], L, e, _, h => h
  | x :: us, L, e, h, he => by
    obtain ⟨⟨h1, h2, h3⟩, _, _, h4⟩ := h
    have := sumT_le us L x.e h4 h3
    simp only [sumT]; omega

theorem tokens_spread {s : ByteArray} {l : List Tok} (h : tokensR s = .ok l) (hl : l.length ≤ 4000) (hs : s.size ≤ 30000) (more : List UInt8) (hml : more.length ≤ 5) (hm : ∀ y, skipF false (more ++ y) = more.length + skipF false y) (hh : ∀ y, sepH (more ++ y))
    (z : ByteArray) (hz : z.data.toList = sprL s.data.toList more l) : tokensR z = .ok (reT more.length 0 l) := by
  have hT := tokS_of h
  have hA : ∀ x, x ∈ l → Alone s.data.toList x := fun x hx => (toks_alone _ _ _ _ hT (by rw [Nat.zero_add]) x hx).1
  have hsum := sumT_le _ _ _ (tokensR_tile h).2 (Nat.zero_le _)
  rw [← ba_size] at hsum
  refine tokensR_of ?_ (by rw [reT_len]; omega) ?_
  · rw [ba_size, hz, sprL_len _ _ _ hA]
    have : (l.length + 1) * more.length ≤ 4001 * 5 := Nat.mul_le_mul (by omega) hml
    omega
  · rw [hz]
    exact tokS_spread _ _ hm hh _ _ hA

end Go.Proofs.Ytemfnlidinnniaa.AD

namespace Go.Proofs.Ytemfnlidinnniaa.AD
open Go.Proofs
set_option linter.unusedVariables false
set_option linter.unusedSimpArgs false
set_option linter.unusedSectionVars false
set_option maxRecDepth 100000

structure RC where
  a : Nat
  deep : Nat
def rcO (L : List Tok) (en : Nat) (st : RC) : List Ob := [.cells [.p (.list 4 (L.map tkP)), .p (.int .i64 st.a), .p (.int .i64 en), .p (.int .i64 st.deep)]]
def peekC (L : List Tok) (st : RC) : ByteArray := match L[st.a]? with
  | some t => if t.k = 6 then t.t else ⟨#[]⟩
  | none => ⟨#[]⟩
def placeC (L : List Tok) (en : Nat) (st : RC) : Int := match L[st.a]? with
  | some t => (t.a : Int)
  | none => (en : Int)
/-- What a reader gives up with. -/
def faultC (L : List Tok) (en : Nat) (st : RC) (e : Int) : List PanicEntry := [{ v := .iface 98 (.agg #[.int .i64 (placeC L en st), .int .i64 e]), recovered := false }]

theorem peek_spec (L : List Tok) (hL : L.length ≤ 8192) (en : Nat) (st : RC) : Meth Try.prog 45 [.ref (.b 0) 0] (rcO L en st) (.str (peekC L st)) (rcO L en st) := by
  refine Meth.of f45_ok fun rest => ?_
  have hml : (L.map tkP).length = L.length := List.length_map _
  unfold peekC
  (conv => whnf)
  refine splitB_dec (fun h1 => ?_) (fun h1 => ?_)
  rotate_left
  · rw [List.getElem?_eq_none (by omega)]
    repeat' ((conv => whnf); first | refine splitB_t rfl ?_ | refine splitB_f rfl ?_ | done)
    exact ⟨rfl, rfl⟩
  have hg : L[st.a]? = some L[st.a] := List.getElem?_eq_getElem (by omega)
  generalize L[st.a] = t at hg
  rw [hg]
  simp only
  (conv => whnf)
  refine ⟨rfl, tkP t, ⟨by omega, by rw [Int.toNat_natCast, List.getElem?_map, hg]; rfl⟩, ?_⟩
  (conv => whnf)
  refine splitB_eq (fun h2 => ?_) (fun h2 => ?_)
  · rw [if_pos h2]
    (conv => whnf)
    refine ⟨rfl, tkP t, ⟨by omega, by rw [Int.toNat_natCast, List.getElem?_map, hg]; rfl⟩, ?_⟩
    (conv => whnf)
    exact ⟨rfl, rfl⟩
  · rw [if_neg h2]
    (conv => whnf)
    exact ⟨rfl, rfl⟩

theorem place_spec (L : List Tok) (hL : L.length ≤ 8192) (en : Nat) (st : RC) (e : Int) : Meth Try.prog 68 [.ref (.b 0) 0, .p (.int .i64 en)] (rcO L en st) (.int .i64 (placeC L en st)) (rcO L en st) := by
  refine Meth.of f68_ok fun rest => ?_
  have hml : (L.map tkP).length = L.length := List.length_map _
  unfold placeC
  (conv => whnf)
  refine splitB_dec (fun h1 => ?_) (fun h1 => ?_)
  · have hg : L[st.a]? = some L[st.a] := List.getElem?_eq_getElem (by omega)
    generalize L[st.a] = t at hg
    rw [hg]
    (conv => whnf)
    refine ⟨rfl, tkP t, ⟨by omega, by rw [Int.toNat_natCast, List.getElem?_map, hg]; rfl⟩, ?_⟩
    (conv => whnf)
    exact ⟨rfl, rfl⟩
  · rw [List.getElem?_eq_none (by omega)]
    (conv => whnf)
    exact ⟨rfl, rfl⟩

theorem CallD.same {P : Program} {f : Nat} {args : List AV} {os rest lo : List Ob} {K : AV → List Ob → List Ob → Prop} {r : PV} (h : Meth P f args os r os) (ha : AV.closes (os ++ rest).length args = args) (k : K (.p r) (os ++ rest) lo) : CallD P f args (os ++ rest) lo K :=
  ⟨r, fun X => by
    rw [ha]
    have e1 : flat (os ++ rest) lo ++ X = os ++ (rest ++ lo.map (Ob.close (os ++ rest).length) ++ X) := by simp [flat, List.append_assoc]
    rw [e1]; exact h _, k⟩

theorem failC_spec (L : List Tok) (hL : L.length ≤ 8192) (en : Nat) (st : RC) (e : Int) : MethP Try.prog 43 [.ref (.b 0) 0, .p (.int .i64 e)] (rcO L en st) (.pan (faultC L en st e) (rcO L en st)) := by
  refine MethP.of f43_ok fun rest => ?_
  have hpl := place_spec L hL en st e
  (conv => whnf)
  refine CallD.same hpl rfl ?_
  (conv => whnf)
  exact ⟨_, rfl, rfl, rfl⟩

theorem peek_lt {L : List Tok} {st : RC} {s : ByteArray} (h : eqL (peekC L st) s = true) (hs : s.data.toList ≠ []) : st.a < L.length := by
  rcases Nat.lt_or_ge st.a L.length with h1 | h1
  · exact h1
  · rw [peekC, List.getElem?_eq_none h1] at h
    exact absurd (beq_iff_eq.1 h).symm hs

/-- What comes of reading something. -/
inductive PO (α : Type) where
  | ok (x : α) (st : RC)
  | bad (e : Int) (st : RC)
def outC {α : Type} (L : List Tok) (en : Nat) (f : α → PV) : PO α → Out
  | .ok x st => .ret (f x) (rcO L en st)
  | .bad e st => .pan (faultC L en st e) (rcO L en st)
def advC (st : RC) : RC := ⟨st.a + 1, st.deep⟩
def mustC (L : List Tok) (s : ByteArray) (st : RC) : PO Unit := if eqL (peekC L st) s = true then .ok () (advC st) else .bad 150 st
theorem rcO_ok (L : List Tok) (en : Nat) (st st' : RC) : (rcO L en st').length = (rcO L en st).length ∧ (rcO L en st').all Ob.noRef = true := ⟨rfl, rfl⟩

theorem mustC_spec (L : List Tok) (hL : L.length ≤ 8192) (en : Nat) (st : RC) (s : ByteArray) (hs : s.data.toList ≠ []) : MethP Try.prog 49 [.ref (.b 0) 0, .p (.str s)] (rcO L en st) (outC L en (fun _ => .tup []) (mustC L s st)) := by
  refine MethP.of f49_ok fun rest => ?_
  have hpk := peek_spec L hL en st
  have hfl := failC_spec L hL en st 150
  unfold mustC
  (conv => whnf)
  refine CallVC.same hpk rfl rfl rfl ?_
  (conv => whnf)
  cases hb : eqL (peekC L st) s with
  | true =>
    have ha := peek_lt hb hs
    rw [if_pos rfl]
    refine splitB_f (by rw [eqL_toList, hb]; rfl) ?_
    (conv => whnf)
    rw [IntWalk.i64_in _ (by omega)]
    exact ⟨⟨_, rfl, .refl _⟩, rfl⟩
  | false =>
    rw [if_neg (by simp)]
    refine splitB_t (by rw [eqL_toList, hb]; rfl) ?_
    (conv => whnf)
    refine CallPV.same hfl rfl ⟨rcO_ok _ _ _ _, ?_⟩
    (conv => whnf)
    exact ⟨rfl, rfl⟩

/-- A token that stands for itself. -/
def litC (t : Tok) : Option Ex :=
  if t.k = 4 then some (.mk 1 t.t []) else if t.k = 2 then some (.mk 5 t.t []) else if t.k = 3 then some (.mk 7 t.t [])
  else if t.k = 1 then some (if eqL t.t ⟨#[116, 114, 117, 101]⟩ then .mk 26 ⟨#[]⟩ [] else if eqL t.t ⟨#[102, 97, 108, 115, 101]⟩ then .mk 27 ⟨#[]⟩ [] else .mk 2 t.t []) else none
def aloneC (L : List Tok) (st : RC) : PO Ex := match L[st.a]? with
  | none => .bad 150 st
  | some t => match litC t with
    | none => .bad 150 st
    | some e => .ok e (advC st)
theorem leaf_leC (o : Int) (t : ByteArray) : PV.le (.agg [.int .u8 o, .str t, .nils]) (enc (.mk o t [])) :=
  .agg (.cons _ _ _ _ (.refl _) (.cons _ _ _ _ (.refl _) (.cons _ _ _ _ (.nils 3) .nil)))

theorem alone_spec (L : List Tok) (hL : L.length ≤ 8192) (en : Nat) (st : RC) (hst : st.a ≤ L.length) : MethP Try.prog 50 [.ref (.b 0) 0] (rcO L en st) (outC L en enc (aloneC L st)) := by
  have hml : (L.map tkP).length = L.length := List.length_map _
  have hfl := failC_spec L hL en st 150
  unfold aloneC
  cases hG : L[st.a]? with
  | none =>
    simp only
    refine MethP.of f50_ok fun rest => ?_
    have hge := List.getElem?_eq_none_iff.1 hG
    (conv => whnf)
    refine splitB_t (beq_iff_eq.2 (by omega)) ?_
    (conv => whnf)
    refine CallPV.same hfl rfl ⟨rcO_ok _ _ _ _, ?_⟩
    (conv => whnf)
    exact ⟨rfl, rfl⟩
  | some t =>
    simp only
    have hlt := (List.getElem?_eq_some_iff.1 hG).1
    cases hlit : litC t with
    | none =>
      simp only
      refine MethP.of f50_ok fun rest => ?_
      unfold litC at hlit
      (conv => whnf)
      refine splitB_f (beq_eq_false_iff_ne.2 (by omega)) ?_
      (conv => whnf)
      refine ⟨rfl, tkP t, ⟨by omega, by rw [Int.toNat_natCast, List.getElem?_map, hG]; rfl⟩, ?_⟩
      (conv => whnf)
      refine splitB_eq (fun k4 => ?_) (fun k4 => ?_)
      · rw [if_pos k4] at hlit; cases hlit
      rw [if_neg k4] at hlit
      (conv => whnf)
      refine splitB_eq (fun k2 => ?_) (fun k2 => ?_)
      · rw [if_pos k2] at hlit; cases hlit
      rw [if_neg k2] at hlit
      (conv => whnf)
      refine splitB_eq (fun k3 => ?_) (fun k3 => ?_)
      · rw [if_pos k3] at hlit; cases hlit
      rw [if_neg k3] at hlit
      (conv => whnf)
      refine splitB_eq (fun k1 => ?_) (fun k1 => ?_)
      · rw [if_pos k1] at hlit; cases hlit
      (conv => whnf)
      refine CallPV.same hfl rfl ⟨rcO_ok _ _ _ _, ?_⟩
      (conv => whnf)
      exact ⟨rfl, rfl⟩
    | some e0 =>
      simp only
      refine MethP.of f50_ok fun rest => ?_
      unfold litC at hlit
      (conv => whnf)
      refine splitB_f (beq_eq_false_iff_ne.2 (by omega)) ?_
      (conv => whnf)
      refine ⟨rfl, tkP t, ⟨by omega, by rw [Int.toNat_natCast, List.getElem?_map, hG]; rfl⟩, ?_⟩
      (conv => whnf)
      refine splitB_eq (fun k4 => ?_) (fun k4 => ?_)
      · rw [if_pos k4] at hlit
        cases hlit
        (conv => whnf)
        rw [IntWalk.i64_in _ (by omega)]
        exact ⟨⟨_, rfl, leaf_leC _ _⟩, rfl⟩
      rw [if_neg k4] at hlit
      (conv => whnf)
      refine splitB_eq (fun k2 => ?_) (fun k2 => ?_)
      · rw [if_pos k2] at hlit
        cases hlit
        (conv => whnf)
        rw [IntWalk.i64_in _ (by omega)]
        exact ⟨⟨_, rfl, leaf_leC _ _⟩, rfl⟩
      rw [if_neg k2] at hlit
      (conv => whnf)
      refine splitB_eq (fun k3 => ?_) (fun k3 => ?_)
      · rw [if_pos k3] at hlit
        cases hlit
        (conv => whnf)
        rw [IntWalk.i64_in _ (by omega)]
        exact ⟨⟨_, rfl, leaf_leC _ _⟩, rfl⟩
      rw [if_neg k3] at hlit
      (conv => whnf)
      refine splitB_eq (fun k1 => ?_) (fun k1 => ?_)
      · rw [if_pos k1] at hlit
        have hlit := Option.some.inj hlit
        (conv => whnf)
        refine splitB_intro (fun b1 => ?_) (fun b1 => ?_)
        · rw [if_pos (by rw [← eqL_toList]; exact b1)] at hlit
          subst hlit
          (conv => whnf)
          rw [IntWalk.i64_in _ (by omega)]
          exact ⟨⟨_, rfl, leaf_leC _ _⟩, rfl⟩
        · rw [if_neg (by rw [← eqL_toList]; simp only [Bool.not_eq_true]; exact b1)] at hlit
          (conv => whnf)
          refine splitB_intro (fun b2 => ?_) (fun b2 => ?_)
          · rw [if_pos (by rw [← eqL_toList]; exact b2)] at hlit
            subst hlit
            (conv => whnf)
            rw [IntWalk.i64_in _ (by omega)]
            exact ⟨⟨_, rfl, leaf_leC _ _⟩, rfl⟩
          · rw [if_neg (by rw [← eqL_toList]; simp only [Bool.not_eq_true]; exact b2)] at hlit
            subst hlit
            (conv => whnf)
            rw [IntWalk.i64_in _ (by omega)]
            exact ⟨⟨_, rfl, leaf_leC _ _⟩, rfl⟩
      · rw [if_neg k1] at hlit; cases hlit

end Go.Proofs.Ytemfnlidinnniaa.AD

namespace Go.Proofs.Ytemfnlidinnniaa.AD
open Go.Proofs
set_option linter.unusedVariables false
set_option linter.unusedSimpArgs false
set_option linter.unusedSectionVars false
set_option maxRecDepth 100000

theorem CallPV.mono {P : Program} {f : Nat} {args : List AV} {ba lo : List Ob} {K K' : AV → List Ob → List Ob → Prop} {X X' : XV} (h : CallPV P f args ba lo K X) (k : ∀ r b l, K r b l → K' r b l) (x : ∀ ch b l, X ch b l → X' ch b l) : CallPV P f args ba lo K' X' := by
  refine ⟨fun μ w xs hi hx => (h.out μ w xs hi hx).mono fun e w' hw => ?_⟩
  rcases hw with ⟨v, r, μ', ba', lo', h1, h2, h3, h4, h5, h6⟩ | ⟨ch, μ', ba', lo', h1, h2, h3, h4, h5⟩
  · exact .inl ⟨v, r, μ', ba', lo', h1, h2, h3, h4, h5, k _ _ _ h6⟩
  · exact .inr ⟨ch, μ', ba', lo', h1, h2, h3, h4, x _ _ _ h5⟩

theorem deeper_spec (L : List Tok) (hL : L.length ≤ 8192) (en : Nat) (st : RC) (hst : st.a ≤ L.length ∧ st.deep ≤ 64) (rest lo : List Ob) (g : Nat) (cap : List AV) (hen : enters Try.prog g = true) {K : AV → List Ob → List Ob → Prop} {X : XV}
    (h1 : st.deep = 64 → X (faultC L en st 3) (rcO L en st ++ rest) lo)
    (h2 : st.deep ≠ 64 → CallPV Try.prog g cap (rcO L en ⟨st.a + 1, st.deep + 1⟩ ++ rest) lo (fun r ba lo' => ∃ st', ba = rcO L en st' ++ rest ∧ (1 ≤ st'.deep ∧ st'.deep ≤ 64) ∧ K (.p (.tup [])) (rcO L en ⟨st'.a, st'.deep - 1⟩ ++ rest) lo') X) :
    CallPV Try.prog 46 [.ref (.b 0) 0, .clos (.func g) [] cap] (rcO L en st ++ rest) lo K X := by
  have hfl := failC_spec L hL en st 3
  refine CallPV.inline f46_ok ?_
  (conv => whnf)
  refine splitB_eq (fun hd => ?_) (fun hd => ?_)
  · (conv => whnf)
    refine CallPV.same hfl rfl ⟨rcO_ok _ _ _ _, ?_⟩
    exact h1 (by omega)
  · (conv => whnf)
    rw [IntWalk.i64_in _ (by omega)]
    (conv => whnf)
    rw [IntWalk.i64_in _ (by omega)]
    refine ⟨hen, ?_⟩
    refine (h2 (by omega)).mono (fun r b l h => ?_) fun ch b l h => h
    obtain ⟨st', rfl, hb, hk⟩ := h
    (conv => whnf)
    rw [IntWalk.i64_in _ (by omega)]
    have e : ((st'.deep : Int) - 1) = ((st'.deep - 1 : Nat) : Int) := by omega
    rw [e]
    exact hk

end Go.Proofs.Ytemfnlidinnniaa.AD

namespace Go.Proofs.Ytemfnlidinnniaa.AD
open Go.Proofs
set_option linter.unusedVariables false
set_option linter.unusedSimpArgs false
set_option linter.unusedSectionVars false
set_option maxRecDepth 100000

abbrev RX := Int → RC → Option (PO Ex)
def deepC {α : Type} (st : RC) (k : RC → Option (PO α)) : Option (PO α) := if st.deep = 64 then some (.bad 3 st) else match k ⟨st.a + 1, st.deep + 1⟩ with
  | none => none
  | some (.bad e s) => some (.bad e s)
  | some (.ok x s) => some (.ok x ⟨s.a, s.deep - 1⟩)
section
variable (L : List Tok) (rec : RX)
def preC (op lv : Int) (st : RC) : Option (PO Ex) := match rec lv st with
  | none => none
  | some (.bad e s) => some (.bad e s)
  | some (.ok x s) => some (.ok (.mk op ⟨#[]⟩ [x]) s)
def parC (st : RC) : Option (PO Ex) := match rec 1 st with
  | none => none
  | some (.bad e s) => some (.bad e s)
  | some (.ok x s) => match mustC L ⟨#[41]⟩ s with
    | .bad e s => some (.bad e s)
    | .ok _ s => some (.ok x s)
def isPre (least : Int) (st : RC) : Bool := decide (least ≤ (unC (peekC L st)).1) && decide ((unC (peekC L st)).2 ≠ 0)
def firstC (least : Int) (st : RC) : Option (PO Ex) :=
  if isPre L least st = true then deepC st (preC rec (unC (peekC L st)).2 (unC (peekC L st)).1)
  else if eqL (peekC L st) ⟨#[40]⟩ = true then deepC st (parC L rec) else some (aloneC L st)
def hasC (least : Int) (st : RC) : Int := if isPre L least st = true then (unC (peekC L st)).1 else 10
def stopC (least has : Int) (q : Int × Int × Int × Int) : Bool := decide (q.2.2.2 = 0) || (decide (q.1 < least) || decide (has < q.2.1))
def loopC (least : Int) : Nat → Int → Ex → RC → Option (PO Ex)
  | 0, _, _, _ => none
  | k + 1, has, e, st =>
    if stopC least has (binC (peekC L st)) = true then some (.ok e st)
    else match (if (binC (peekC L st)).2.2.2 = 15 then deepC st (rec (binC (peekC L st)).2.2.1) else rec (binC (peekC L st)).2.2.1 (advC st)) with
      | none => none
      | some (.bad e s) => some (.bad e s)
      | some (.ok f s) => loopC least k (binC (peekC L st)).1 (.mk (binC (peekC L st)).2.2.2 ⟨#[]⟩ [e, f]) s
def stepC (least : Int) (st : RC) : Option (PO Ex) := match firstC L rec least st with
  | none => none
  | some (.bad e s) => some (.bad e s)
  | some (.ok e s) => loopC L rec least 9000 (hasC L least st) e s
end
def exprC (L : List Tok) : Nat → RX
  | 0 => fun _ _ => none
  | k + 1 => stepC L (exprC L k)

def GoodC (L : List Tok) (st : RC) : Prop := st.a ≤ L.length ∧ st.deep ≤ 64
def After (L : List Tok) (st : RC) {α : Type} : PO α → Prop
  | .ok _ s => GoodC L s ∧ s.deep = st.deep
  | .bad _ _ => True
def OkayX (L : List Tok) (en : Nat) (rec : RX) : Prop := ∀ (least : Int) (st : RC) (o : PO Ex), GoodC L st → rec least st = some o →
  After L st o ∧ MethP Try.prog 29 [.ref (.b 0) 0, .p (.int .i64 least)] (rcO L en st) (outC L en enc o)

theorem binC_lt {L : List Tok} {st : RC} (h : (binC (peekC L st)).2.2.2 ≠ 0) : st.a < L.length := by
  rcases Nat.lt_or_ge st.a L.length with h1 | h1
  · exact h1
  · rw [peekC, List.getElem?_eq_none h1] at h
    exact absurd (by decide) h
theorem unC_lt {L : List Tok} {st : RC} (h : (unC (peekC L st)).2 ≠ 0) : st.a < L.length := by
  rcases Nat.lt_or_ge st.a L.length with h1 | h1
  · exact h1
  · rw [peekC, List.getElem?_eq_none h1] at h
    exact absurd (by decide) h

section
variable {L : List Tok} {en : Nat} {rec : RX} (hL : L.length ≤ 8192) (ok : OkayX L en rec)
include hL ok

theorem deep_after {α : Type} {st : RC} (hg : GoodC L st) (ha : st.a < L.length) {k : RC → Option (PO α)} (hk : ∀ s o, GoodC L s → k s = some o → After L s o) {o : PO α} (h : deepC st k = some o) : After L st o := by
  unfold deepC at h
  split at h
  · cases h; trivial
  · rename_i hd
    have g1 : GoodC L ⟨st.a + 1, st.deep + 1⟩ := ⟨ha, by have := hg.2; simp only; omega⟩
    split at h
    · cases h
    · cases h; trivial
    · rename_i x s h1
      cases h
      have := hk _ _ g1 h1
      obtain ⟨q1, q2⟩ := this
      refine ⟨⟨q1.1, ?_⟩, ?_⟩
      · have := q1.2; simp only; omega
      · simp only at q2 ⊢; omega
theorem must_after {s : ByteArray} (hs : s.data.toList ≠ []) {st : RC} (hg : GoodC L st) : After L st (mustC L s st) := by
  unfold mustC
  split
  · rename_i h
    exact ⟨⟨peek_lt h hs, hg.2⟩, rfl⟩
  · trivial
theorem first_after {least : Int} {st : RC} (hg : GoodC L st) {o : PO Ex} (h : firstC L rec least st = some o) : After L st o := by
  unfold firstC at h
  split at h
  · rename_i hp
    have hu : (unC (peekC L st)).2 ≠ 0 := by rw [isPre, Bool.and_eq_true, decide_eq_true_eq, decide_eq_true_eq] at hp; exact hp.2
    refine deep_after hL ok hg (unC_lt hu) (fun s o hs h => ?_) h
    unfold preC at h
    split at h
    · cases h
    · cases h; trivial
    · rename_i x s' h1
      cases h
      exact (ok _ _ _ hs h1).1
  split at h
  · rename_i hp
    refine deep_after hL ok hg (peek_lt hp (by decide)) (fun s o hs h => ?_) h
    unfold parC at h
    split at h
    · cases h
    · cases h; trivial
    · rename_i x s' h1
      have h2 := (ok _ _ _ hs h1).1
      have h3 := must_after hL ok (s := ⟨#[41]⟩) (by decide) h2.1
      split at h
      · cases h; trivial
      · rename_i s2 hm
        cases h
        rw [hm] at h3
        exact ⟨h3.1, h3.2.trans h2.2⟩
  · cases h
    unfold aloneC
    split
    · trivial
    · rename_i t ht
      split
      · trivial
      · exact ⟨⟨(List.getElem?_eq_some_iff.1 ht).1, hg.2⟩, rfl⟩
theorem loop_after {least : Int} {st : RC} : ∀ (k : Nat) (has : Int) (e : Ex) (s : RC) (o : PO Ex), GoodC L s → s.deep = st.deep → loopC L rec least k has e s = some o → After L st o := by
  intro k
  induction k with
  | zero => intro has e s o _ _ h; cases h
  | succ k ih =>
    intro has e s o g d h
    simp only [loopC] at h
    split at h
    · cases h; exact ⟨g, d⟩
    · rename_i hs
      have hb : (binC (peekC L s)).2.2.2 ≠ 0 := by
        intro e0
        simp only [stopC, e0, decide_true, Bool.true_or, not_true_eq_false] at hs
      have hlt := binC_lt hb
      split at h
      · cases h
      · cases h; trivial
      · rename_i f s2 hr
        have hr2 : After L s (PO.ok f s2) := by
          split at hr
          · exact deep_after hL ok g hlt (fun s' o' hs' h' => (ok _ _ _ hs' h').1) hr
          · have g' : GoodC L (advC s) := ⟨hlt, g.2⟩
            have := (ok _ _ _ g' hr).1
            exact this
        exact ih _ _ _ _ hr2.1 (hr2.2.trans d) h
end

end Go.Proofs.Ytemfnlidinnniaa.AD

namespace Go.Proofs.Ytemfnlidinnniaa.AD
open Go.Proofs
set_option linter.unusedVariables false
set_option linter.unusedSimpArgs false
set_option linter.unusedSectionVars false
set_option maxRecDepth 100000

set_option maxHeartbeats 1000000 in
theorem loop_okay {L : List Tok} {en : Nat} {rec : RX} (hL : L.length ≤ 8192) (ok : OkayX L en rec) (least : Int) (o : PO Ex) (rest : List Ob) (o1 : Int) (t1 : ByteArray) (xs1 : List Ex) (s : RC) (has lv op : Int) (g1 : GoodC L s) (h1 : loopC L rec least 9000 has (.mk o1 t1 xs1) s = some o) :
      W Try.prog f29.c35 [(1, .p (.int .i64 least)), (2, .ref (.l 0) 0), (4, .ref (.l 1) 0), (5, .ref (.l 2) 0), (6, .p (.int .i64 has))] (rcO L en s ++ rest)
        [.cells [.ref (.b 0) 0], .cells [.p (.int .u8 0), .p (.str ⟨#[]⟩), .p .nils], .cells [.p (.int .u8 o1), .p (.str t1), .p (.list 3 (encs xs1))], .cells [.p (.int .i64 lv)], .cells [.p (.int .u8 op)]]
        (endPQ f29 (fun r' H' => match outC L en enc o with | .ret r os' => (∃ p, r' = .p p ∧ p.le r) ∧ H' = os' ++ rest | .pan _ _ => False) fun ch H' => match outC L en enc o with | .ret _ _ => False | .pan ch' os' => ch = ch' ∧ H' = os' ++ rest) := by
    have hml : (L.map tkP).length = L.length := List.length_map _
    (conv => whnf)
    intro R hR
    have key : ∀ (k : Nat) (o1 : Int) (t1 : ByteArray) (xs1 : List Ex) (s : RC) (has : Int), GoodC L s → loopC L rec least k has (.mk o1 t1 xs1) s = some o →
        R [(1, .p (.int .i64 least)), (2, .ref (.l 0) 0), (4, .ref (.l 1) 0), (5, .ref (.l 2) 0), (6, .p (.int .i64 has))] (rcO L en s ++ rest)
        [.cells [.ref (.b 0) 0], .cells [.p (.int .u8 0), .p (.str ⟨#[]⟩), .p .nils], .cells [.p (.int .u8 o1), .p (.str t1), .p (.list 3 (encs xs1))], .cells [.p (.int .i64 lv)], .cells [.p (.int .u8 op)]] := by
      intro k
      induction k with
      | zero => intro o1 t1 xs1 s has _ h; cases h
      | succ k ih =>
        intro o1 t1 xs1 s has g1 h
        simp only [loopC] at h
        have hpk := peek_spec L hL en s
        generalize hq : binC (peekC L s) = q at h
        refine hR _ _ _ ?_
        (conv => whnf)
        refine CallVC.same hpk rfl rfl rfl ?_
        (conv => whnf)
        refine CallVC.pureF (binary_spec _) rfl ?_
        rw [hq]
        obtain ⟨q1, q2, q3, q4⟩ := q
        simp only at h
        have hstop : stopC least has (q1, q2, q3, q4) = true → o = .ok (.mk o1 t1 xs1) s := fun hb => by
          rw [if_pos hb] at h; cases h; rfl
        (conv => whnf)
        refine splitB_eq (fun e0 => ?_) (fun e0 => ?_)
        · have e0 : q4 = 0 := e0
          obtain rfl := hstop (by simp [stopC, e0])
          repeat' ((conv => whnf); first | refine splitB_t rfl ?_ | refine splitB_f rfl ?_ | done)
          (conv => whnf)
          exact ⟨⟨_, rfl, .refl _⟩, rfl⟩
        have e0 : ¬ q4 = 0 := e0
        (conv => whnf)
        refine splitB_dec (fun e1 => ?_) (fun e1 => ?_)
        · have e1 : q1 < least := e1
          obtain rfl := hstop (by simp [stopC, e1])
          repeat' ((conv => whnf); first | refine splitB_t rfl ?_ | refine splitB_f rfl ?_ | done)
          (conv => whnf)
          exact ⟨⟨_, rfl, .refl _⟩, rfl⟩
        have e1 : ¬ q1 < least := e1
        (conv => whnf)
        refine splitB_dec (fun e2 => ?_) (fun e2 => ?_)
        · have e2 : has < q2 := e2
          obtain rfl := hstop (by simp [stopC, e2])
          repeat' ((conv => whnf); first | refine splitB_t rfl ?_ | refine splitB_f rfl ?_ | done)
          (conv => whnf)
          exact ⟨⟨_, rfl, .refl _⟩, rfl⟩
        have e2 : ¬ has < q2 := e2
        have hlt : s.a < L.length := binC_lt (by rw [hq]; exact e0)
        have h64' := g1.2
        rw [if_neg (by simp [stopC, e0, e1, e2])] at h
        clear hstop
        (conv => whnf)
        refine splitB_eq (fun e3 => ?_) (fun e3 => ?_)
        · have e3 : q4 = 15 := e3
          subst e3
          rw [if_pos rfl] at h
          (conv => whnf)
          refine deeper_spec L hL en s g1 rest _ _ _ (by kernel_rfl) (fun h64 => ?_) (fun h64 => ?_)
          · unfold deepC at h
            rw [if_pos h64] at h
            cases h
            (conv => whnf)
            exact ⟨rfl, rfl⟩
          · unfold deepC at h
            rw [if_neg h64] at h
            refine CallPV.inline f52_ok ?_
            (conv => whnf)
            cases hrec : rec q3 ⟨s.a + 1, s.deep + 1⟩ with
            | none => rw [hrec] at h; cases h
            | some oo =>
              rw [hrec] at h
              obtain ⟨ha2, hm2⟩ := ok q3 ⟨s.a + 1, s.deep + 1⟩ oo ⟨hlt, by simp only; omega⟩ hrec
              refine CallPE.same hm2 rfl ?_
              cases oo with
              | bad e s2 =>
                cases h
                refine ⟨rcO_ok _ _ _ _, ?_⟩
                (conv => whnf)
                exact ⟨rfl, rfl⟩
              | ok f s2 =>
                refine ⟨rcO_ok _ _ _ _, ?_⟩
                obtain ⟨o2, t2, xs2⟩ := f
                obtain ⟨g2, d2⟩ := ha2
                simp only at d2
                have b2 := g2.2
                (conv => whnf)
                refine ⟨rfl, ?_⟩
                (conv => whnf)
                refine ⟨rfl, ?_⟩
                (conv => whnf)
                refine ⟨s2, rfl, ⟨by omega, by omega⟩, ?_⟩
                (conv => whnf)
                exact ih 15 ⟨#[]⟩ [.mk o1 t1 xs1, .mk o2 t2 xs2] ⟨s2.a, s2.deep - 1⟩ q1 ⟨g2.1, by simp only; omega⟩ h
        · have e3 : ¬ q4 = 15 := e3
          rw [if_neg e3] at h
          (conv => whnf)
          rw [IntWalk.i64_in _ (by omega)]
          cases hrec : rec q3 (advC s) with
          | none => rw [hrec] at h; cases h
          | some oo =>
            rw [hrec] at h
            obtain ⟨ha2, hm2⟩ := ok q3 (advC s) oo ⟨hlt, h64'⟩ hrec
            refine CallPE.same hm2 rfl ?_
            cases oo with
            | bad e s2 =>
              cases h
              refine ⟨rcO_ok _ _ _ _, ?_⟩
              (conv => whnf)
              exact ⟨rfl, rfl⟩
            | ok f s2 =>
              refine ⟨rcO_ok _ _ _ _, ?_⟩
              obtain ⟨o2, t2, xs2⟩ := f
              obtain ⟨g2, d2⟩ := ha2
              (conv => whnf)
              refine ⟨rfl, ?_⟩
              (conv => whnf)
              refine ⟨rfl, ?_⟩
              (conv => whnf)
              exact ih q4 ⟨#[]⟩ [.mk o1 t1 xs1, .mk o2 t2 xs2] s2 q1 g2 h
    exact key 9000 o1 t1 xs1 s has g1 h1

set_option maxHeartbeats 1000000 in
theorem expr_okay {L : List Tok} {en : Nat} {rec : RX} (hL : L.length ≤ 8192) (ok : OkayX L en rec) : OkayX L en (stepC L rec) := by
  intro least st o hg h
  have hAfter : After L st o := by
    unfold stepC at h
    split at h
    · cases h
    · cases h; trivial
    · rename_i e s h1
      have := first_after hL ok hg h1
      exact loop_after hL ok _ _ _ _ _ this.1 this.2 h
  refine ⟨hAfter, MethP.of f29_ok fun rest => ?_⟩
  have hml : (L.map tkP).length = L.length := List.length_map _
  have hpk := peek_spec L hL en st
  have last := fun o1 t1 xs1 s has lv op g1 h1 => loop_okay hL ok least o rest o1 t1 xs1 s has lv op g1 h1
  unfold stepC at h
  obtain ⟨lv, op, hu⟩ : ∃ lv op, unC (peekC L st) = (lv, op) := ⟨_, _, rfl⟩
  (conv => whnf)
  refine CallVC.same hpk rfl rfl rfl ?_
  (conv => whnf)
  refine CallVC.pureF (unary_spec _) rfl ?_
  rw [hu]
  (conv => whnf)
  have notpre : isPre L least st = false → W Try.prog f29.c10 [(1, .p (.int .i64 least)), (2, .ref (.l 0) 0), (4, .ref (.l 1) 0), (5, .ref (.l 2) 0), (6, .p (.int .i64 10)), (7, .ref (.l 3) 0), (8, .ref (.l 4) 0), (28, .p (.bool false))] (rcO L en st ++ rest)
        [.cells [.ref (.b 0) 0], .cells [.p (.int .u8 0), .p (.str ⟨#[]⟩), .p .nils], .cells [.p (.int .u8 0), .p (.str ⟨#[]⟩), .p .nils], .cells [.p (.int .i64 lv)], .cells [.p (.int .u8 op)]]
        (thenQ (fun fr ba lo => projK [1, 2, 4, 5, 6] fr fun fr => W Try.prog f29.c35 fr ba lo (endPQ f29 (fun r' H' => match outC L en enc o with | .ret r os' => (∃ p, r' = .p p ∧ p.le r) ∧ H' = os' ++ rest | .pan _ _ => False) fun ch H' => match outC L en enc o with | .ret _ _ => False | .pan ch' os' => ch = ch' ∧ H' = os' ++ rest))
          (endPQ f29 (fun r' H' => match outC L en enc o with | .ret r os' => (∃ p, r' = .p p ∧ p.le r) ∧ H' = os' ++ rest | .pan _ _ => False) fun ch H' => match outC L en enc o with | .ret _ _ => False | .pan ch' os' => ch = ch' ∧ H' = os' ++ rest)) := by
    intro hp
    have hh : hasC L least st = 10 := by rw [hasC, hp]; rfl
    rw [hh] at h
    unfold firstC at h
    rw [hp] at h
    simp only [Bool.false_eq_true, if_false] at h
    have h64' := hg.2
    (conv => whnf)
    refine CallVC.same hpk rfl rfl rfl ?_
    (conv => whnf)
    refine splitB_intro (fun b1 => ?_) (fun b1 => ?_)
    · have b1' : eqL (peekC L st) ⟨#[40]⟩ = true := by rw [← eqL_toList]; exact b1
      have hlt := peek_lt b1' (by decide)
      rw [if_pos b1'] at h
      (conv => whnf)
      refine deeper_spec L hL en st hg rest _ _ _ (by kernel_rfl) (fun h64 => ?_) (fun h64 => ?_)
      · unfold deepC at h
        rw [if_pos h64] at h
        cases h
        (conv => whnf)
        exact ⟨rfl, rfl⟩
      · unfold deepC at h
        rw [if_neg h64] at h
        refine CallPV.inline f48_ok ?_
        (conv => whnf)
        unfold parC at h
        cases hrec : rec 1 ⟨st.a + 1, st.deep + 1⟩ with
        | none => rw [hrec] at h; cases h
        | some oo =>
          rw [hrec] at h
          obtain ⟨ha2, hm2⟩ := ok 1 ⟨st.a + 1, st.deep + 1⟩ oo ⟨hlt, by simp only; omega⟩ hrec
          refine CallPV.same hm2 rfl ?_
          cases oo with
          | bad e s2 =>
            cases h
            refine ⟨rcO_ok _ _ _ _, ?_⟩
            (conv => whnf)
            exact ⟨rfl, rfl⟩
          | ok f s2 =>
            refine ⟨rcO_ok _ _ _ _, ?_⟩
            obtain ⟨o2, t2, xs2⟩ := f
            obtain ⟨g2, d2⟩ := ha2
            simp only at d2 h
            have hmu := mustC_spec L hL en s2 ⟨#[41]⟩ (by decide)
            have hma := must_after hL ok (s := ⟨#[41]⟩) (by decide) g2
            (conv => whnf)
            generalize mustC L ⟨#[41]⟩ s2 = mm at h hmu hma
            refine CallPV.same hmu rfl ?_
            cases mm with
            | bad e s3 =>
              cases h
              refine ⟨rcO_ok _ _ _ _, ?_⟩
              (conv => whnf)
              exact ⟨rfl, rfl⟩
            | ok u s3 =>
              simp only at h
              obtain ⟨g3, d3⟩ := hma
              have b3 := g3.2
              refine ⟨rcO_ok _ _ _ _, ?_⟩
              (conv => whnf)
              refine ⟨s3, rfl, ⟨by omega, by omega⟩, ?_⟩
              have q := last o2 t2 xs2 ⟨s3.a, s3.deep - 1⟩ 10 lv op ⟨g3.1, by simp only; omega⟩ h
              (conv at q => whnf)
              (conv => whnf)
              exact q
    · have b1' : ¬ eqL (peekC L st) ⟨#[40]⟩ = true := by rw [← eqL_toList]; simp only [Bool.not_eq_true]; exact b1
      rw [if_neg b1'] at h
      have hal := alone_spec L hL en st hg.1
      (conv => whnf)
      have haf : After L st (aloneC L st) := by
        unfold aloneC
        split
        · trivial
        · rename_i t ht
          split
          · trivial
          · exact ⟨⟨(List.getElem?_eq_some_iff.1 ht).1, hg.2⟩, rfl⟩
      generalize aloneC L st = aa at h hal haf
      refine CallPV.same hal rfl ?_
      cases aa with
      | bad e s2 =>
        cases h
        refine ⟨rcO_ok _ _ _ _, ?_⟩
        (conv => whnf)
        exact ⟨rfl, rfl⟩
      | ok f s2 =>
        simp only at h
        obtain ⟨o2, t2, xs2⟩ := f
        refine ⟨rcO_ok _ _ _ _, ?_⟩
        have q := last o2 t2 xs2 s2 10 lv op haf.1 h
        (conv at q => whnf)
        (conv => whnf)
        exact q
  refine splitB_dec (fun e1 => ?_) (fun e1 => ?_)
  rotate_left
  · have q := notpre (by simp [isPre, hu]; intro h8; exact absurd h8 e1)
    repeat' ((conv => whnf); first | refine splitB_t rfl ?_ | refine splitB_f rfl ?_ | done)
    (conv at q => whnf)
    (conv => whnf)
    exact q
  by_cases e2 : op = 0
  · have q := notpre (by simp [isPre, hu, e2])
    subst e2
    (conv at q => whnf)
    (conv => whnf)
    refine splitB_f rfl ?_
    (conv => whnf)
    exact q
  (conv => whnf)
  refine splitB_ne (fun _ => ?_) (fun e3 => absurd e3 e2)
  have e2 : ¬ op = 0 := e2
  have hp : isPre L least st = true := by simp [isPre, hu, e2]; exact e1
  have hlt : st.a < L.length := unC_lt (by rw [hu]; exact e2)
  have hh : hasC L least st = lv := by rw [hasC, hp, hu]; rfl
  have h64' := hg.2
  rw [hh] at h
  unfold firstC at h
  rw [if_pos hp, hu] at h
  clear notpre
  simp only at h
  (conv => whnf)
  refine deeper_spec L hL en st hg rest _ _ _ (by kernel_rfl) (fun h64 => ?_) (fun h64 => ?_)
  · unfold deepC at h
    rw [if_pos h64] at h
    cases h
    (conv => whnf)
    exact ⟨rfl, rfl⟩
  · unfold deepC at h
    rw [if_neg h64] at h
    refine CallPV.inline f47_ok ?_
    (conv => whnf)
    unfold preC at h
    cases hrec : rec lv ⟨st.a + 1, st.deep + 1⟩ with
    | none => rw [hrec] at h; cases h
    | some oo =>
      rw [hrec] at h
      obtain ⟨ha2, hm2⟩ := ok lv ⟨st.a + 1, st.deep + 1⟩ oo ⟨hlt, by simp only; omega⟩ hrec
      refine CallPE.same hm2 rfl ?_
      cases oo with
      | bad e s2 =>
        cases h
        refine ⟨rcO_ok _ _ _ _, ?_⟩
        (conv => whnf)
        exact ⟨rfl, rfl⟩
      | ok f s2 =>
        simp only at h
        refine ⟨rcO_ok _ _ _ _, ?_⟩
        obtain ⟨o2, t2, xs2⟩ := f
        obtain ⟨g2, d2⟩ := ha2
        simp only at d2
        have b2 := g2.2
        (conv => whnf)
        refine ⟨rfl, ?_⟩
        (conv => whnf)
        refine ⟨s2, rfl, ⟨by omega, by omega⟩, ?_⟩
        have q := last op ⟨#[]⟩ [.mk o2 t2 xs2] ⟨s2.a, s2.deep - 1⟩ lv lv op ⟨g2.1, by simp only; omega⟩ h
        (conv at q => whnf)
        (conv => whnf)
        exact q

theorem exprC_okay {L : List Tok} (en : Nat) (hL : L.length ≤ 8192) : ∀ k, OkayX L en (exprC L k)
  | 0 => fun least st o _ h => by cases h
  | k + 1 => expr_okay hL (exprC_okay en hL k)

end Go.Proofs.Ytemfnlidinnniaa.AD

namespace Go.Proofs.Ytemfnlidinnniaa.AD
open Go.Proofs
set_option linter.unusedVariables false
set_option linter.unusedSimpArgs false
set_option linter.unusedSectionVars false
set_option maxRecDepth 100000

def d27 : DF := ⟨2, [.cell 4 none, .cell 5 none], [f27.c0, f27.c1, f27.c6, f27.c7], 24, 42, [.t 4, .t 5], f27.c17⟩
theorem d27_ok : compDF Try.prog [1000043, 2000000] 27 4 = some d27.bare := by kernel_rfl
def r42 : RF := ⟨2, 5, 2, f42.c11⟩
theorem r42_ok : compRF Try.prog [] 42 = some r42.bare := by kernel_rfl

/-- What a reader gives up with is one of two errors. -/
def BadE {α : Type} : PO α → Prop
  | .bad e _ => e = 150 ∨ e = 3
  | .ok _ _ => True
section
variable {L : List Tok} {rec : RX} (hr : ∀ least st o, rec least st = some o → BadE o)
include hr
theorem deep_bad {α : Type} {st : RC} {k : RC → Option (PO α)} {o : PO α} (hk : ∀ s o, k s = some o → BadE o) (h : deepC st k = some o) : BadE o := by
  unfold deepC at h
  split at h
  · cases h; exact .inr rfl
  · split at h
    · cases h
    · rename_i h1; cases h; exact hk _ _ h1
    · cases h; trivial
theorem must_bad (s : ByteArray) (st : RC) : BadE (mustC L s st) := by
  unfold mustC; split
  · trivial
  · exact .inl rfl
theorem alone_bad (st : RC) : BadE (aloneC L st) := by
  unfold aloneC; split
  · exact .inl rfl
  · split
    · exact .inl rfl
    · trivial
theorem first_bad {least : Int} {st : RC} {o : PO Ex} (h : firstC L rec least st = some o) : BadE o := by
  unfold firstC at h
  split at h
  · refine deep_bad hr (fun s o h => ?_) h
    unfold preC at h
    split at h
    · cases h
    · rename_i h1; cases h; exact hr _ _ _ h1
    · cases h; trivial
  split at h
  · refine deep_bad hr (fun s o h => ?_) h
    unfold parC at h
    split at h
    · cases h
    · rename_i h1; cases h; exact hr _ _ _ h1
    · rename_i x s' h1
      have h3 := must_bad hr (L := L) ⟨#[41]⟩ s'
      split at h
      · rename_i h2; cases h; rw [h2] at h3; exact h3
      · cases h; trivial
  · cases h; exact alone_bad hr _
theorem loop_bad {least : Int} : ∀ (k : Nat) {has : Int} {e : Ex} {st : RC} {o : PO Ex}, loopC L rec least k has e st = some o → BadE o
  | 0, _, _, _, _, h => by cases h
  | k + 1, has, e, st, o, h => by
    simp only [loopC] at h
    split at h
    · cases h; trivial
    · split at h
      · cases h
      · rename_i h1
        cases h
        split at h1
        · exact deep_bad hr (fun s o h => hr _ _ _ h) h1
        · exact hr _ _ _ h1
      · exact loop_bad k h
theorem step_bad {least : Int} {st : RC} {o : PO Ex} (h : stepC L rec least st = some o) : BadE o := by
  unfold stepC at h
  split at h
  · cases h
  · rename_i h1; cases h; exact first_bad hr h1
  · exact loop_bad hr _ h
end
theorem exprC_bad {L : List Tok} : ∀ (k : Nat) (least : Int) (st : RC) (o : PO Ex), exprC L k least st = some o → BadE o
  | 0, _, _, _, h => by cases h
  | k + 1, least, st, o, h => step_bad (exprC_bad k) h

inductive RO (α : Type) where
  | ok (x : α)
  | err (p e : Int)
/-- Behind the reading. -/
def endC {α : Type} (L : List Tok) (en : Nat) : PO α → RO α
  | .bad e st => .err (placeC L en st) e
  | .ok x st => if st.a < L.length then .err (placeC L en st) 150 else .ok x
def readC {α : Type} (s : ByteArray) (run : List Tok → Option (PO α)) : Option (RO α) := match tokensR s with
  | .err p e => some (.err p e)
  | .ok L => (run L).map (endC L s.size)
def outE : RO Ex → PV
  | .ok x => .tup [enc x, .int .i64 0, .int .i64 0]
  | .err p e => .tup [.agg [.int .u8 0, .str ⟨#[]⟩, .nils], .int .i64 p, .int .i64 e]

theorem Expr_spec (s : ByteArray) (hsz : (s.size : Int) ≤ 9223372036854775807) (k : Nat) {o : RO Ex} (h : readC s (fun L => exprC L k 1 ⟨0, 0⟩) = some o) : pureF Try.prog 9 [.p (.str s)] (.p (outE o)) := by
  refine pureF_of f9_ok fun H => ?_
  have htk := Tokens_spec s hsz
  unfold readC at h
  (conv => whnf)
  refine CallVC.defers (d := d27) (r := r42) d27_ok r42_ok rfl ?_
  (conv => whnf)
  refine CallVC.pureF htk rfl ?_
  cases hT : tokensR s with
  | err p e =>
    rw [hT] at h
    have h := Option.some.inj h
    subst h
    have he := (tokensR_err hT).1
    (conv => whnf)
    refine splitB_ne (fun _ => ?_) (fun e0 => by have e0 : e = 0 := e0; omega)
    (conv => whnf)
    refine ⟨rfl, ?_⟩
    (conv => whnf)
    refine splitB_ne (fun _ => ?_) (fun e0 => by have e0 : e = 0 := e0; omega)
    (conv => whnf)
    exact ⟨rfl, rfl⟩
  | ok L =>
    rw [hT] at h
    simp only at h
    have hL := tokensR_len hT
    have hml : (L.map tkP).length = L.length := List.length_map _
    (conv => whnf)
    refine splitB_f rfl ?_
    (conv => whnf)
    refine ⟨rfl, ?_⟩
    refine CallPV.inline f28_ok ?_
    (conv => whnf)
    obtain ⟨oo, hx, rfl⟩ := Option.map_eq_some_iff.1 h
    obtain ⟨haf, hm⟩ := exprC_okay s.size hL k 1 ⟨0, 0⟩ oo ⟨Nat.zero_le _, Nat.zero_le _⟩ hx
    refine CallPV.methF [_, _, _, _] [] hm rfl rfl rfl rfl ?_
    have hb := exprC_bad _ _ _ _ hx
    cases oo with
    | bad e st =>
      refine ⟨⟨rfl, rfl⟩, ?_⟩
      (conv => whnf)
      refine ⟨98, .agg [.int .i64 (placeC L s.size st), .int .i64 e], _, rfl, rfl, ?_⟩
      (conv => whnf)
      refine splitB_t rfl ?_
      (conv => whnf)
      refine ⟨rfl, ?_⟩
      (conv => whnf)
      refine splitB_f rfl ?_
      (conv => whnf)
      repeat (refine ⟨rfl, ?_⟩; (conv => whnf))
      refine splitB_ne (fun _ => ?_) (fun e0 => by have e0 : e = 0 := e0; have hb : e = 150 ∨ e = 3 := hb; omega)
      (conv => whnf)
      exact ⟨rfl, rfl⟩
    | ok x st =>
      obtain ⟨o1, t1, xs1⟩ := x
      have hg : st.a ≤ L.length := haf.1.1
      refine ⟨⟨rfl, rfl⟩, ?_⟩
      (conv => whnf)
      refine splitB_dec (fun h1 => ?_) (fun h1 => ?_)
      · have h1 : st.a < L.length := by omega
        (conv => whnf)
        refine CallPV.methF [_, _, _, _] [] (failC_spec L hL s.size st 150) rfl rfl rfl rfl ?_
        refine ⟨⟨rfl, rfl⟩, ?_⟩
        (conv => whnf)
        refine ⟨98, .agg [.int .i64 (placeC L s.size st), .int .i64 150], _, rfl, rfl, ?_⟩
        (conv => whnf)
        refine splitB_t rfl ?_
        (conv => whnf)
        refine ⟨rfl, ?_⟩
        (conv => whnf)
        refine splitB_f rfl ?_
        (conv => whnf)
        repeat (refine ⟨rfl, ?_⟩; (conv => whnf))
        refine splitB_t rfl ?_
        (conv => whnf)
        rw [show endC L s.size (PO.ok (Ex.mk o1 t1 xs1) st) = .err (placeC L s.size st) 150 from if_pos h1]
        exact ⟨rfl, rfl⟩
      · have h1 : ¬ st.a < L.length := by omega
        (conv => whnf)
        refine splitB_f rfl ?_
        (conv => whnf)
        refine splitB_f rfl ?_
        (conv => whnf)
        rw [show endC L s.size (PO.ok (Ex.mk o1 t1 xs1) st) = .ok (.mk o1 t1 xs1) from if_neg h1]
        exact ⟨rfl, rfl⟩

end Go.Proofs.Ytemfnlidinnniaa.AD

namespace Go.Proofs.Ytemfnlidinnniaa.AD
open Go.Proofs
set_option linter.unusedVariables false
set_option linter.unusedSimpArgs false
set_option maxRecDepth 100000

def oneT (op a : Int) : Int :=
  if op = 3 ∧ a = 1 then 1 else if op = 6 ∧ a = 1 then 2 else if op = 8 ∧ a = 1 then 3 else if op = 9 ∧ (a = 2 ∨ a = 3) then a else if op = 25 ∧ a = 4 then 4 else 0
def twoT (op a b : Int) : Int :=
  if op = 4 then (if a = 1 ∧ b = 1 then 1 else 0)
  else if 10 ≤ op ∧ op ≤ 13 then (if a = 2 ∧ b = 2 then 2 else if (a = 2 ∨ a = 3) ∧ (b = 2 ∨ b = 3) then 3 else 0)
  else if op = 14 then (if a = 2 ∧ b = 2 then 2 else 0)
  else if op = 15 then (if (a = 2 ∨ a = 3) ∧ b = 2 then a else 0)
  else if 16 ≤ op ∧ op ≤ 21 then (if (a = 1 ∧ b = 1) ∨ ((a = 2 ∨ a = 3) ∧ (b = 2 ∨ b = 3)) then 4 else 0)
  else if op = 22 then (if a = 1 ∧ b = 1 then 4 else 0)
  else if op = 23 ∨ op = 24 then (if a = 4 ∧ b = 4 then 4 else 0)
  else 0

theorem arity1 {op : Int} (h : arityI op = 1) : op = 3 ∨ op = 6 ∨ op = 8 ∨ op = 9 ∨ op = 25 := by
  simp only [arityI] at h
  split at h
  · omega
  · split at h
    · assumption
    · split at h <;> omega
theorem arity2 {op : Int} (h : arityI op = 2) : op = 4 ∨ op = 10 ∨ op = 11 ∨ op = 12 ∨ op = 13 ∨ op = 14 ∨ op = 15 ∨ op = 16 ∨ op = 17 ∨ op = 18 ∨ op = 19 ∨ op = 20 ∨ op = 21 ∨ op = 22 ∨ op = 23 ∨ op = 24 := by
  simp only [arityI] at h
  split at h
  · omega
  · split at h
    · omega
    · split at h <;> omega

def rowOf (op : Int) : List PV := [.int .u8 (oneT op 0), .int .u8 (oneT op 1), .int .u8 (oneT op 2), .int .u8 (oneT op 3), .int .u8 (oneT op 4)]
def rowTwo (op a : Int) : List PV := [.int .u8 (twoT op a 0), .int .u8 (twoT op a 1), .int .u8 (twoT op a 2), .int .u8 (twoT op a 3), .int .u8 (twoT op a 4)]
def gridOf (op : Int) : List PV := rowTwo op 0 ++ rowTwo op 1 ++ rowTwo op 2 ++ rowTwo op 3 ++ rowTwo op 4

end Go.Proofs.Ytemfnlidinnniaa.AD

namespace Go.Proofs.Ytemfnlidinnniaa.AD
open Go.Proofs
set_option linter.unusedVariables false
set_option linter.unusedSimpArgs false
set_option maxRecDepth 100000

def leafT (o : Int) : Int := if o = 5 then 2 else if o = 7 then 3 else if o = 26 ∨ o = 27 then 4 else 1
def combT (o : Int) : List Int → Int
  | [] => leafT o
  | [a] => oneT o a
  | a :: b :: _ => twoT o a b
mutual
def typeT : Ex → Int
  | .mk o _ xs => combT o (typesT xs)
def typesT : List Ex → List Int
  | [] => []
  | a :: r => typeT a :: typesT r
end

/-- Each kind with as many parts as it has. -/
inductive Shaped : Ex → Prop
  | mk (o : Int) (t : ByteArray) (xs : List Ex) : arityI o = xs.length → (∀ a, a ∈ xs → Shaped a) → Shaped (.mk o t xs)

theorem arity0 {op : Int} (h : arityI op = 0) : op = 1 ∨ op = 2 ∨ op = 5 ∨ op = 7 ∨ op = 26 ∨ op = 27 := by
  simp only [arityI] at h
  split at h
  · assumption
  · split at h
    · omega
    · split at h <;> omega
theorem arity_le (op : Int) : arityI op ≤ 2 := by
  simp only [arityI]
  (repeat' split) <;> omega

theorem Shaped.args {o : Int} {t : ByteArray} {xs : List Ex} (h : Shaped (.mk o t xs)) : (arityI o = 0 ∧ xs = []) ∨ (arityI o = 1 ∧ ∃ a, xs = [a] ∧ Shaped a) ∨ (arityI o = 2 ∧ ∃ a b, xs = [a, b] ∧ Shaped a ∧ Shaped b) := by
  cases h with
  | mk _ _ _ h1 h2 =>
    have := arity_le o
    match xs, h1, h2 with
    | [], h1, _ => exact .inl ⟨h1, rfl⟩
    | [a], h1, h2 => exact .inr (.inl ⟨h1, a, rfl, h2 a (by simp)⟩)
    | [a, b], h1, h2 => exact .inr (.inr ⟨h1, a, b, rfl, h2 a (by simp), h2 b (by simp)⟩)
    | _ :: _ :: _ :: _, h1, _ => simp at h1; omega

theorem oneT_range {o a : Int} (h : 0 ≤ a ∧ a ≤ 4) : 0 ≤ oneT o a ∧ oneT o a ≤ 4 := by simp only [oneT]; (repeat' split) <;> omega
theorem twoT_range {o a b : Int} (h : 0 ≤ a ∧ a ≤ 4) : 0 ≤ twoT o a b ∧ twoT o a b ≤ 4 := by simp only [twoT]; (repeat' split) <;> omega

theorem typeT_range (e : Ex) : Shaped e → 0 ≤ typeT e ∧ typeT e ≤ 4 := by
  induction e using Ex.ind with
  | h o t xs ih =>
    intro h
    rcases h.args with ⟨_, rfl⟩ | ⟨_, a, rfl, ha⟩ | ⟨_, a, b, rfl, ha, hb⟩
    · simp only [typeT, typesT, combT, leafT]; (repeat' split) <;> omega
    · simp only [typeT, typesT, combT]; exact oneT_range (ih a (by simp) ha)
    · simp only [typeT, typesT, combT]; exact twoT_range (ih a (by simp) ha)

theorem row_get {op i : Int} (h : 0 ≤ i ∧ i ≤ 4) : (rowOf op)[i.toNat * 1]? = some (.int .u8 (oneT op i)) := by
  have : i = 0 ∨ i = 1 ∨ i = 2 ∨ i = 3 ∨ i = 4 := by omega
  rcases this with rfl | rfl | rfl | rfl | rfl <;> rfl
theorem grid_get {op i : Int} (h : 0 ≤ i ∧ i ≤ 4) : ((gridOf op).drop (i.toNat * 5)).take 5 = rowTwo op i := by
  have : i = 0 ∨ i = 1 ∨ i = 2 ∨ i = 3 ∨ i = 4 := by omega
  rcases this with rfl | rfl | rfl | rfl | rfl <;> rfl
theorem row2_get {op a i : Int} (h : 0 ≤ i ∧ i ≤ 4) : (rowTwo op a)[i.toNat * 1]? = some (.int .u8 (twoT op a i)) := by
  have : i = 0 ∨ i = 1 ∨ i = 2 ∨ i = 3 ∨ i = 4 := by omega
  rcases this with rfl | rfl | rfl | rfl | rfl <;> rfl

end Go.Proofs.Ytemfnlidinnniaa.AD

namespace Go.Proofs.Ytemfnlidinnniaa.AD
open Go.Proofs
set_option linter.unusedVariables false
set_option linter.unusedSimpArgs false
set_option maxRecDepth 100000

def eqS (s t : ByteArray) : Bool := s.toList == t.toList
def textOk (o : Int) (t : ByteArray) : Bool :=
  if o = 1 then true
  else if o = 2 then nameB t && (!eqS t ⟨#[116, 114, 117, 101]⟩ && !eqS t ⟨#[102, 97, 108, 115, 101]⟩)
  else if o = 5 then digitsB t
  else if o = 7 then decB t
  else eqS t ⟨#[]⟩
mutual
def mayE : Ex → Bool
  | .mk o t xs => decide (arityI o = xs.length) && (textOk o t && mayL xs)
def mayL : List Ex → Bool
  | [] => true
  | a :: r => mayE a && mayL r
end
theorem mayL_all : ∀ xs, mayL xs = xs.all mayE
  | [] => rfl
  | a :: r => by rw [mayL, mayL_all r]; rfl

theorem shaped_of (e : Ex) : mayE e = true → Shaped e := by
  induction e using Ex.ind with
  | h o t xs ih =>
    intro h
    simp only [mayE, Bool.and_eq_true, decide_eq_true_eq, mayL_all, List.all_eq_true] at h
    exact .mk o t xs h.1 fun a ha => ih a ha (h.2.2 a ha)

/-! ### the program's -/
/-- The first of which something holds. -/
def idxF {α : Type} (p : α → Bool) : List α → Int
  | [] => -1
  | a :: r => if p a then 0 else if idxF p r = -1 then -1 else idxF p r + 1
theorem idxF_ge {α : Type} (p : α → Bool) : ∀ xs : List α, -1 ≤ idxF p xs
  | [] => by simp [idxF]
  | a :: r => by have := idxF_ge p r; simp only [idxF]; (repeat' split) <;> omega
theorem idxF_any {α : Type} (p : α → Bool) : ∀ xs : List α, decide (idxF p xs ≥ 0) = xs.any p
  | [] => by simp [idxF]
  | a :: r => by
    have h1 := idxF_any p r
    have h2 := idxF_ge p r
    rw [List.any_cons, ← h1]
    simp only [idxF]
    by_cases hp : p a = true
    · simp [hp]
    · have hp : p a = false := by simpa using hp
      simp only [hp, Bool.false_or, Bool.false_eq_true, if_false]
      by_cases h3 : idxF p r = -1
      · rw [if_pos h3, h3]
      · rw [if_neg h3, decide_eq_decide]; omega

theorem IndexFuncE_spec (xs : List Ex) (hx : (xs.length : Int) ≤ 9223372036854775807) (p : Ex → Bool) (f : Nat) (hf : enters Try.prog f = true) (hp : ∀ a, a ∈ xs → pureF Try.prog f [.p (enc a)] (.p (.bool (p a)))) :
    pureF Try.prog 82 [.p (.list 3 (encs xs)), .p (.fn (.func f))] (.p (.int .i64 (idxF p xs))) := by
  refine pureF_of f82_ok fun H => ?_
  (conv => whnf)
  intro R hR
  have he := encs_len xs
  have key : ∀ (rest : List Ex) (i : Nat), xs.drop i = rest → idxF p xs = (if idxF p rest = -1 then -1 else idxF p rest + i) → R [(0, .p (.list 3 (encs xs))), (1, .p (.fn (.func f))), (7, .p (.int .i64 (encs xs).length)), (8, .p (.int .i64 i))] H [] := by
    intro rest
    induction rest with
    | nil =>
      intro i hd hq
      have hl := drop_nil hd
      refine hR _ _ _ ?_
      (conv => whnf)
      refine splitB_f (decide_eq_false (by omega)) ?_
      exact ⟨by rw [hq]; rfl, rfl⟩
    | cons a r ih =>
      intro i hd hq
      obtain ⟨hg, hd', hi⟩ := drop_cons hd
      have hpa := hp a (List.mem_of_getElem? hg)
      refine hR _ _ _ ?_
      (conv => whnf)
      refine splitB_t (decide_eq_true (by omega)) ?_
      (conv => whnf)
      obtain ⟨o', t', xs'⟩ := a
      refine ⟨rfl, enc (.mk o' t' xs'), ⟨by omega, encs_get hg⟩, ?_⟩
      (conv => whnf)
      refine ⟨hf, ?_⟩
      refine CallVC.pureF hpa rfl ?_
      (conv => whnf)
      refine splitB_intro (fun h => ?_) (fun h => ?_)
      · exact ⟨by rw [hq]; simp [idxF, h], rfl⟩
      · (conv => whnf)
        rw [IntWalk.i64_in _ (by omega)]
        refine ih (i + 1) hd' ?_
        rw [hq]
        simp only [idxF, h, Bool.false_eq_true, if_false]
        have := idxF_ge p r
        by_cases h3 : idxF p r = -1
        · rw [if_pos h3, if_pos rfl, if_pos h3]
        · rw [if_neg h3, if_neg (by omega), if_neg h3]; push_cast; omega
  refine key xs 0 rfl ?_
  by_cases h3 : idxF p xs = -1
  · rw [if_pos h3]; exact h3
  · rw [if_neg h3]; simp

theorem ContainsFuncE_spec (xs : List Ex) (hx : (xs.length : Int) ≤ 9223372036854775807) (p : Ex → Bool) (f : Nat) (hf : enters Try.prog f = true) (hp : ∀ a, a ∈ xs → pureF Try.prog f [.p (enc a)] (.p (.bool (p a)))) :
    pureF Try.prog 62 [.p (.list 3 (encs xs)), .p (.fn (.func f))] (.p (.bool (xs.any p))) := by
  refine pureF_of f62_ok fun H => ?_
  (conv => whnf)
  refine CallVC.pureF (IndexFuncE_spec xs hx p f hf hp) rfl ?_
  exact ⟨by rw [← idxF_any], rfl⟩

theorem mayFn_spec (a : Ex) (h : pureF Try.prog 36 [.p (enc a)] (.p (.bool (mayE a)))) : pureF Try.prog 63 [.p (enc a)] (.p (.bool (!mayE a))) := by
  refine pureF_of f63_ok fun H => ?_
  obtain ⟨o, t, xs⟩ := a
  (conv => whnf)
  refine CallVC.pureF h rfl ?_
  exact ⟨rfl, rfl⟩

theorem may_spec (e : Ex) : Fits e → pureF Try.prog 36 [.p (enc e)] (.p (.bool (mayE e))) := by
  induction e using Ex.ind with
  | h o t xs ih =>
    intro hfit
    cases hfit with
    | mk _ _ _ ho ht hx hxs =>
    have he := encs_len xs
    have hany : pureF Try.prog 62 [.p (.list 3 (encs xs)), .p (.fn (.func 63))] (.p (.bool (xs.any fun a => !mayE a))) :=
      ContainsFuncE_spec xs hx (fun a => !mayE a) 63 (by kernel_rfl) fun a ha => mayFn_spec a (ih a ha (hxs a ha))
    have hall : (!(xs.any fun a => !mayE a)) = mayL xs := by rw [mayL_all, List.not_any_eq_all_not]; simp
    refine pureF_of f36_ok fun H => ?_
    (conv => whnf)
    refine CallD.pureF (arity_spec o ho) rfl ?_
    (conv => whnf)
    refine splitB_ne (fun h => ?_) (fun h => ?_)
    · exact ⟨by rw [mayE, decide_eq_false (by omega)]; rfl, rfl⟩
    · have h2 : mayE (.mk o t xs) = (textOk o t && mayL xs) := by rw [mayE, decide_eq_true (by omega)]; rfl
      have last : ∀ b : Bool, textOk o t = b → W Try.prog f36.c26 [(1, .ref (.l 0) 0), (3, .p (.bool b))] H [.cells [.p (.int .u8 o), .p (.str t), .p (.list 3 (encs xs))]] (endQ f36 fun r' H' => r' = .p (.bool (mayE (.mk o t xs))) ∧ H' = H) := by
        intro b hb
        cases b with
        | false =>
          (conv => whnf)
          refine splitB_f rfl ?_
          exact ⟨by rw [h2, hb]; rfl, rfl⟩
        | true =>
          (conv => whnf)
          refine splitB_t rfl ?_
          (conv => whnf)
          refine CallVC.pureF hany rfl ?_
          exact ⟨by rw [h2, hb, ← hall]; rfl, rfl⟩
      (conv => whnf)
      refine splitB_eq (fun h3 => ?_) (fun h3 => ?_)
      · have q := last true (by rw [textOk, if_pos h3])
        (conv at q => whnf)
        (conv => whnf)
        exact q
      · (conv => whnf)
        refine splitB_eq (fun h4 => ?_) (fun h4 => ?_)
        · have ht2 : textOk o t = (nameB t && (!eqS t ⟨#[116, 114, 117, 101]⟩ && !eqS t ⟨#[102, 97, 108, 115, 101]⟩)) := by rw [textOk, if_neg h3, if_pos h4]
          (conv => whnf)
          refine CallVC.pureF (Name_spec t ht) rfl ?_
          (conv => whnf)
          refine splitB_intro (fun h5 => ?_) (fun h5 => ?_)
          · have h5 : nameB t = true := h5
            (conv => whnf)
            refine splitB_intro (fun h6 => ?_) (fun h6 => ?_)
            · have h6 : (!eqS t ⟨#[116, 114, 117, 101]⟩) = true := h6
              have q := last (!eqS t ⟨#[102, 97, 108, 115, 101]⟩) (by rw [ht2, h5, h6]; rfl)
              (conv at q => whnf)
              (conv => whnf)
              exact q
            · have h6 : (!eqS t ⟨#[116, 114, 117, 101]⟩) = false := h6
              have q := last false (by rw [ht2, h5, h6]; rfl)
              (conv at q => whnf)
              (conv => whnf)
              exact q
          · have h5 : nameB t = false := h5
            (conv => whnf)
            refine splitB_f rfl ?_
            have q := last false (by rw [ht2, h5]; rfl)
            (conv at q => whnf)
            (conv => whnf)
            exact q
        · (conv => whnf)
          refine splitB_eq (fun h5 => ?_) (fun h5 => ?_)
          · (conv => whnf)
            refine CallVC.pureF (digits_spec t ht) rfl ?_
            have q := last (digitsB t) (by rw [textOk, if_neg h3, if_neg h4, if_pos h5])
            (conv at q => whnf)
            (conv => whnf)
            exact q
          · (conv => whnf)
            refine splitB_eq (fun h6 => ?_) (fun h6 => ?_)
            · have ht2 : textOk o t = decB t := by rw [textOk, if_neg h3, if_neg h4, if_neg h5, if_pos h6]
              have hsz : ∀ a b, ((t.extract a b).size : Int) ≤ 9223372036854775807 := fun a b => by
                have : (t.extract a b).size ≤ t.size := by simp [ByteArray.size_extract]; omega
                omega
              have hs1 : ((cutAt t 46).1.size : Int) ≤ 9223372036854775807 := by
                rw [cutAt]; split
                · exact hsz _ _
                · exact ht
              have hs2 : ((cutAt t 46).2.1.size : Int) ≤ 9223372036854775807 := by
                rw [cutAt]; split
                · exact hsz _ _
                · show ((0 : Nat) : Int) ≤ 9223372036854775807
                  omega
              (conv => whnf)
              refine CallVC.pureF (Cut_spec t ht 46) rfl ?_
              (conv => whnf)
              refine splitB_intro (fun h7 => ?_) (fun h7 => ?_)
              · have h7 : (cutAt t 46).2.2 = true := h7
                (conv => whnf)
                refine CallVC.pureF (digits_spec _ hs1) rfl ?_
                (conv => whnf)
                refine splitB_intro (fun h8 => ?_) (fun h8 => ?_)
                · have h8 : digitsB (cutAt t 46).1 = true := h8
                  (conv => whnf)
                  refine CallVC.pureF (digits_spec _ hs2) rfl ?_
                  have q := last (digitsB (cutAt t 46).2.1) (by rw [ht2, decB, h7, h8]; rfl)
                  (conv at q => whnf)
                  (conv => whnf)
                  exact q
                · have h8 : digitsB (cutAt t 46).1 = false := h8
                  have q := last false (by rw [ht2, decB, h7, h8]; rfl)
                  (conv at q => whnf)
                  (conv => whnf)
                  exact q
              · have h7 : (cutAt t 46).2.2 = false := h7
                (conv => whnf)
                refine splitB_f rfl ?_
                have q := last false (by rw [ht2, decB, h7]; rfl)
                (conv at q => whnf)
                (conv => whnf)
                exact q
            · have q := last (eqS t ⟨#[]⟩) (by rw [textOk, if_neg h3, if_neg h4, if_neg h5, if_neg h6])
              (conv at q => whnf)
              (conv => whnf)
              exact q

/-! ### the document's -/
end Go.Proofs.Ytemfnlidinnniaa.AD

namespace Go.Proofs.Ytemfnlidinnniaa.AD
open Go.Proofs
set_option linter.unusedVariables false
set_option linter.unusedSimpArgs false
set_option maxRecDepth 100000

def markEx : PV := .agg [.int .u8 77, .str ⟨#[]⟩, .nils]
mutual
def encT : Ex → PV
  | .mk o t xs => .agg [.int .u8 o, .str t, .lent 3 (encTs xs) [markEx]]
def encTs : List Ex → List PV
  | [] => []
  | a :: r => encT a :: encTs r
end
theorem encTs_map : ∀ l, encTs l = l.map encT
  | [] => rfl
  | a :: r => by rw [encTs, encTs_map r]; rfl
theorem encTs_len (xs : List Ex) : (encTs xs).length = xs.length := by rw [encTs_map, List.length_map]

/-- No row is long. -/
inductive Few : Ex → Prop
  | mk (o : Int) (t : ByteArray) (xs : List Ex) : xs.length ≤ 20000 → (∀ a, a ∈ xs → Few a) → Few (.mk o t xs)

theorem encT_le (e : Ex) : (encT e).le (enc e) := by
  induction e using Ex.ind with
  | h o t xs ih =>
    have main : ∀ l : List Ex, (∀ a, a ∈ l → (encT a).le (enc a)) → PV.les (encTs l) (encs l) := by
      intro l
      induction l with
      | nil => intro _; exact .nil
      | cons a r ihr => intro h; exact .cons _ _ _ _ (h a (by simp)) (ihr fun b hb => h b (by simp [hb]))
    exact .agg (.cons _ _ _ _ (.refl _) (.cons _ _ _ _ (.refl _) (.cons _ _ _ _ (.lent (main xs ih)) .nil)))

theorem encTs_take {xs : List Ex} {k : Nat} {a : Ex} (h : xs[k]? = some a) : encTs (xs.take (k + 1)) = encTs (xs.take k) ++ [encT a] := by
  rw [encTs_map, encTs_map, ← List.take_append_getElem (get_lt h), List.map_append]
  simp [(List.getElem?_eq_some_iff.1 h).2]
theorem encTs_cut (xs : List Ex) (k : Nat) : (encTs (xs.take k)).take k = encTs (xs.take k) := by
  apply List.take_of_length_le
  rw [encTs_len, List.length_take]
  omega

theorem encTs_get {xs : List Ex} {i : Nat} {a : Ex} (h : xs[i]? = some a) : (encTs xs)[i]? = some (encT a) := by rw [encTs_map, List.getElem?_map, h]; rfl

/-- A tree that is not large has short rows. -/
theorem few_of (e : Ex) : ∀ m : Int, m ≤ 20000 → size e m ≤ m → Few e := by
  induction e using Ex.ind with
  | h o t xs ih =>
    intro m hm h
    have main : ∀ (l : List Ex) (n : Int), (∀ a, a ∈ l → a ∈ xs) → 1 ≤ n → sizes l m n ≤ m → n + l.length ≤ m ∧ ∀ a, a ∈ l → Few a := by
      intro l
      induction l with
      | nil => intro n _ _ h; simp only [sizes] at h; exact ⟨by simpa using h, fun a ha => by cases ha⟩
      | cons a r ihr =>
        intro n hl hn h
        simp only [sizes] at h
        split at h
        · rename_i h2
          have h3 := sizes_le.1 a (m - n)
          have h4 := sizes_le.2 r m (n + size a (m - n)) (by omega)
          have h5 : size a (m - n) ≤ m - n := by omega
          obtain ⟨h6, h7⟩ := ihr _ (fun b hb => hl b (by simp [hb])) (by omega) h
          refine ⟨by simp; omega, fun b hb => ?_⟩
          cases hb with
          | head => exact ih a (hl a (by simp)) (m - n) (by omega) h5
          | tail _ hb => exact h7 b hb
        · omega
    obtain ⟨h1, h2⟩ := main xs 1 (fun _ h => h) (by omega) h
    exact .mk o t xs (by omega) h2

end Go.Proofs.Ytemfnlidinnniaa.AD

namespace Go.Proofs.Ytemfnlidinnniaa.AD
open Go.Proofs
set_option linter.unusedVariables false
set_option linter.unusedSimpArgs false
set_option maxRecDepth 100000

inductive Cl where
  | mk (kind : Int) (test value : Ex) (block : List Cl)

theorem Cl.ind {motive : Cl → Prop} (h : ∀ k t v b, (∀ a, a ∈ b → motive a) → motive (.mk k t v b)) (c : Cl) : motive c := by
  match c with
  | .mk k t v b => exact h k t v b fun a ha => Cl.ind h a
termination_by SizeOf.sizeOf c
decreasing_by
  have := List.sizeOf_lt_of_mem ha
  simp only [Cl.mk.sizeOf_spec]
  omega

mutual
def encC : Cl → PV
  | .mk k (.mk o t xs) (.mk o2 t2 xs2) b => .agg [.int .u8 k, .int .u8 o, .str t, .list 3 (encs xs), .int .u8 o2, .str t2, .list 3 (encs xs2), .list 8 (encCs b)]
def encCs : List Cl → List PV
  | [] => []
  | a :: r => encC a :: encCs r
end
theorem encCs_map : ∀ l, encCs l = l.map encC
  | [] => rfl
  | a :: r => by rw [encCs, encCs_map r]; rfl
theorem encCs_len (l : List Cl) : (encCs l).length = l.length := by rw [encCs_map, List.length_map]
theorem encCs_get {l : List Cl} {i : Nat} {a : Cl} (h : l[i]? = some a) : (encCs l)[i]? = some (encC a) := by rw [encCs_map, List.getElem?_map, h]; rfl

inductive FitsC : Cl → Prop
  | mk (k : Int) (t v : Ex) (b : List Cl) : 0 ≤ k → Fits t → Fits v → (b.length : Int) ≤ 9223372036854775807 → (∀ a, a ∈ b → FitsC a) → FitsC (.mk k t v b)

def zeroE : Ex → Bool
  | .mk o t xs => decide (o = 0) && (eqS t ⟨#[]⟩ && decide (xs.length = 0))
mutual
def checkC : Cl → Bool
  | .mk k t v b => (if k = 2 then mayE v && decide (b.length = 0) else if k = 3 then zeroE v && checkL b else if k = 1 then zeroE v && decide (b.length = 0) else false) && mayE t
def checkL : List Cl → Bool
  | [] => true
  | a :: r => checkC a && checkL r
end
def errT (b : Bool) : Int := if b then 0 else 151
theorem errT_zero (b : Bool) : errT b = 0 ↔ b = true := by cases b <;> simp [errT]

theorem Check_ind (l : List Cl) (hl : (l.length : Int) ≤ 9223372036854775807) (hf : ∀ c, c ∈ l → FitsC c) (ih : ∀ k t v b, Cl.mk k t v b ∈ l → pureF Try.prog 18 [.p (.list 8 (encCs b))] (.p (.int .i64 (errT (checkL b))))) :
    pureF Try.prog 18 [.p (.list 8 (encCs l))] (.p (.int .i64 (errT (checkL l)))) := by
  have he := encCs_len l
  refine pureF_of f18_ok fun H => ?_
  (conv => whnf)
  intro R hR
  have key : ∀ (rest : List Cl) (i : Nat), l.drop i = rest → checkL l = checkL rest → R [(7, .p (.list 8 (encCs l))), (8, .p (.int .i64 (encCs l).length)), (9, .p (.int .i64 i))] H [] := by
    intro rest
    induction rest with
    | nil =>
      intro i hd hq
      have hl := drop_nil hd
      refine hR _ _ _ ?_
      (conv => whnf)
      refine splitB_f (decide_eq_false (by omega)) ?_
      exact ⟨by rw [hq]; rfl, rfl⟩
    | cons c r ihr =>
      intro i hd hq
      obtain ⟨hg, hd', hi⟩ := drop_cons hd
      have hmem := List.mem_of_getElem? hg
      have hfc := hf c hmem
      obtain ⟨k, ⟨o, t, xs⟩, ⟨o2, t2, xs2⟩, b⟩ := c
      have ihc := ih _ _ _ _ hmem
      cases hfc with
      | mk _ _ _ _ hk hft hfv hb _ =>
      have hmt := may_spec _ hft
      have hmv := may_spec _ hfv
      have hex := encs_len xs2
      have heb := encCs_len b
      refine hR _ _ _ ?_
      (conv => whnf)
      refine splitB_t (decide_eq_true (by omega)) ?_
      (conv => whnf)
      refine ⟨rfl, encC (.mk k (.mk o t xs) (.mk o2 t2 xs2) b), ⟨by omega, encCs_get hg⟩, ?_⟩
      have hq2 : checkL l = (checkC (.mk k (.mk o t xs) (.mk o2 t2 xs2) b) && checkL r) := hq
      have bad : checkC (.mk k (.mk o t xs) (.mk o2 t2 xs2) b) = false → errT (checkL l) = 151 := fun e => by rw [hq2, e]; rfl
      have good : checkC (.mk k (.mk o t xs) (.mk o2 t2 xs2) b) = true → checkL l = checkL r := fun e => by rw [hq2, e]; rfl
      have hchk : checkC (.mk k (.mk o t xs) (.mk o2 t2 xs2) b) = ((if k = 2 then mayE (.mk o2 t2 xs2) && decide (b.length = 0) else if k = 3 then (decide (o2 = 0) && (eqS t2 ⟨#[]⟩ && decide (xs2.length = 0))) && checkL b else if k = 1 then (decide (o2 = 0) && (eqS t2 ⟨#[]⟩ && decide (xs2.length = 0))) && decide (b.length = 0) else false) && mayE (.mk o t xs)) := rfl
      repeat' ((conv => whnf); first | refine CallVC.pureF hmt rfl ?_ | refine CallVC.pureF hmv rfl ?_ | refine CallVC.pureF ihc rfl ?_ | refine splitB_t rfl ?_ | refine splitB_f rfl ?_ | (first | refine splitB_t rfl ?_ | refine splitB_f rfl ?_ | refine splitB_dec (fun h => ?_) (fun h => ?_) | refine splitB_eq (fun h => ?_) (fun h => ?_) | refine splitB_ne (fun h => ?_) (fun h => ?_) | refine splitB_intro (fun h => ?_) (fun h => ?_)))
      all_goals (try (conv => whnf))
      all_goals first
        | exact ⟨congrArg (fun n => AV.p (PV.int .i64 n)) (bad (by rw [hchk]; simp_all [eqS, errT_zero])).symm, rfl⟩
        | (rw [IntWalk.i64_in _ (by omega)]; exact ihr (i + 1) hd' (good (by rw [hchk]; simp_all [eqS, errT_zero])))
  exact key l 0 rfl rfl


theorem Check_all (c : Cl) : ∀ k t v b, c = .mk k t v b → FitsC c → pureF Try.prog 18 [.p (.list 8 (encCs b))] (.p (.int .i64 (errT (checkL b)))) := by
  induction c using Cl.ind with
  | h k t v b ih =>
    intro k' t' v' b' e hf
    cases e
    cases hf with
    | mk _ _ _ _ _ _ _ h1 h2 => exact Check_ind b h1 h2 fun k2 t2 v2 b2 hm => ih _ hm k2 t2 v2 b2 rfl (h2 _ hm)

theorem Check_spec (l : List Cl) (hl : (l.length : Int) ≤ 9223372036854775807) (hf : ∀ c, c ∈ l → FitsC c) : pureF Try.prog 18 [.p (.list 8 (encCs l))] (.p (.int .i64 (errT (checkL l)))) :=
  Check_ind l hl hf fun k t v b hm => Check_all _ k t v b rfl (hf _ hm)

/-- The type of any tree, or the error. -/
def ofT (e : Ex) : PV := if mayE e then (if typeT e = 0 then .tup [.int .u8 0, .int .i64 200] else .tup [.int .u8 (typeT e), .int .i64 0]) else .tup [.int .u8 0, .int .i64 151]

theorem ofT_tup (e : Ex) : ∃ a b, ofT e = .tup [.int .u8 a, .int .i64 b] := by
  unfold ofT
  split
  · split <;> exact ⟨_, _, rfl⟩
  · exact ⟨_, _, rfl⟩

end Go.Proofs.Ytemfnlidinnniaa.AD
