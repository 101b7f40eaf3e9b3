/- Chapter 20: what an argument reads as: a tree. -/
import Derived.Test.YtaanmljlbhkonaaT1
import Derived.ChangeArms
import Derived.SizedLaws
namespace Go.Proofs.Ytaanmljlbhkonaa.AD
open Go.Proofs
set_option linter.unusedVariables false
set_option linter.unusedSimpArgs false
set_option maxRecDepth 100000

/-- Cells that stand for these. -/
def CellsIn (W : World) (cs : List Value) (ps : List PV) : Prop := cs.length = ps.length ∧ ∀ (j : Nat) (x : Value) (p : PV), cs[j]? = some x → ps[j]? = some p → VP (fun _ => False) W x p ∧ x.oneCell' = true

theorem cells?_out {w : World} {base : Nat} {a : Addr} {n : Nat} {cs : List Value} (h : w.cells? base a n = some cs) : cs.length = n ∧ ∀ (i : Nat) (u : Value), cs[i]? = some u → w.cell? (a.add i) = some u := by
  unfold World.cells? at h
  split at h
  · have hl := mapM_some_length h
    rw [List.length_range] at hl
    refine ⟨hl, fun i u hu => ?_⟩
    have hi : i < n := by
      have := (List.getElem?_eq_some_iff.1 hu).1
      omega
    have := mapM_some_get h i i (by simp [hi])
    rw [this]; exact hu
  · cases h

theorem cell_spot {w : World} {a : Addr} {v : Value} (h : w.cell? a = some v) : a.spot = none ∧ a.block < w.heap.size := by
  unfold World.cell? at h
  split at h
  · rename_i hb
    split at h
    · cases h
    · rename_i hs
      exact ⟨by simpa using hs, (Array.getElem?_eq_some_iff.1 hb).1⟩
  · cases h

/-- A row of elements of more cells than one, each read. -/
theorem row_in {W : World} {base : Nat} {a : Addr} {len cap sz : Nat} {α : Type} (cellsOf : α → List PV) (good : α → Prop) (hsz : ∀ x, (cellsOf x).length = sz) (h0 : 0 < sz) (hc : len ≤ cap)
    (hel : ∀ i, i < len → ∃ cs x, W.cells? base (a.add (i * sz)) sz = some cs ∧ CellsIn W cs (cellsOf x) ∧ good x) :
    ∃ xs : List α, xs.length = len ∧ (∀ x, x ∈ xs → good x) ∧ VP (fun _ => False) W (.slice (some a) len cap) (.list sz (xs.map fun x => .agg (cellsOf x))) := by
  have key : ∀ m, m ≤ len → ∃ xs : List α, xs.length = m ∧ ∀ (j : Nat) (x : α), xs[j]? = some x → good x ∧ ∃ cs, W.cells? base (a.add (j * sz)) sz = some cs ∧ CellsIn W cs (cellsOf x) := by
    intro m
    induction m with
    | zero => intro _; exact ⟨[], rfl, fun j x h => by simp at h⟩
    | succ m ih =>
      intro hm
      obtain ⟨xs, hl, hx⟩ := ih (by omega)
      obtain ⟨cs, x, h1, h2, h3⟩ := hel m (by omega)
      refine ⟨xs ++ [x], by simp [hl], fun j z hz => ?_⟩
      rcases Nat.lt_or_ge j xs.length with hj | hj
      · rw [List.getElem?_append_left hj] at hz; exact hx j z hz
      · rw [List.getElem?_append_right hj] at hz
        have hj2 : j = m := by have := get_lt hz; simp at this; omega
        subst hj2
        rw [hl, Nat.sub_self] at hz
        obtain rfl : x = z := by simpa using hz
        exact ⟨h3, cs, h1, h2⟩
  obtain ⟨xs, hl, hx⟩ := key len (Nat.le_refl _)
  refine ⟨xs, hl, fun x hm => ?_, ?_⟩
  · obtain ⟨j, hj⟩ := List.mem_iff_getElem?.1 hm
    exact (hx j x hj).1
  · rcases Nat.eq_zero_or_pos len with h | h
    · subst h
      obtain rfl : xs = [] := List.length_eq_zero_iff.1 hl
      exact .list0 sz _ _ fun e => by cases e
    · obtain ⟨_, cs0, g1, g2⟩ := hx 0 xs[0] (List.getElem?_eq_getElem (by omega))
      obtain ⟨g3, g4⟩ := cells?_out g1
      have g5 := g4 0 cs0[0] (List.getElem?_eq_getElem (by omega))
      have hadd : (a.add (0 * sz)).add 0 = a := by simp [Addr.add]
      rw [hadd] at g5
      obtain ⟨g6, g7⟩ := cell_spot g5
      obtain ⟨b, off, sp⟩ := a
      simp only at g6 g7
      subst g6
      have hch : ∀ j, ∃ v : Value, ∀ x, xs[j]? = some x → v.cells.size = sz ∧ (∀ (i : Nat) (u : Value), v.cells[i]? = some u → u.oneCell' = true ∧ W.cell? ⟨b, off + (j * sz + i), none⟩ = some u) ∧ VP (fun _ => False) W v (.agg (cellsOf x)) := fun j => by
        by_cases hj : j < xs.length
        · obtain ⟨_, cs, k1, k2⟩ := hx j xs[j] (List.getElem?_eq_getElem hj)
          obtain ⟨k3, k4⟩ := cells?_out k1
          refine ⟨.agg cs.toArray, fun x hxj => ?_⟩
          rw [List.getElem?_eq_getElem hj] at hxj
          cases hxj
          refine ⟨by simp [Value.cells, k3], fun i u hu => ?_, .agg _ _ (by simp [k3, hsz]) (fun i u p hu hp => ?_) fun i u hu => ?_⟩
          · have hu' : cs[i]? = some u := by simpa [Value.cells] using hu
            have hi : i < (cellsOf xs[j]).length := by have := get_lt hu'; rw [hsz]; omega
            refine ⟨(k2.2 i u _ hu' (List.getElem?_eq_getElem hi)).2, ?_⟩
            have := k4 i u hu'
            rw [← this]
            simp only [add_none, Nat.add_assoc]
          · exact (k2.2 i u p (by simpa using hu) hp).1
          · have hu' : cs[i]? = some u := by simpa using hu
            have hi : i < (cellsOf xs[j]).length := by have := get_lt hu'; rw [hsz]; omega
            exact (k2.2 i u _ hu' (List.getElem?_eq_getElem hi)).2
        · exact ⟨default, fun x hxj => absurd (get_lt hxj) hj⟩
      have hv := VP.list (M := fun _ => False) (w := W) b off cap sz (xs.map fun x => PV.agg (cellsOf x)) (fun j => Classical.choose (hch j)) (fun h => h) g7 (by simp [hl]; exact hc)
        (fun j e he => by
          rw [List.getElem?_map] at he
          obtain ⟨x, hxj, rfl⟩ := Option.map_eq_some_iff.1 he
          exact (Classical.choose_spec (hch j) x hxj).1)
        (fun j e he => by
          rw [List.getElem?_map] at he
          obtain ⟨x, hxj, rfl⟩ := Option.map_eq_some_iff.1 he
          exact (Classical.choose_spec (hch j) x hxj).2.1)
        (fun j e he => by
          rw [List.getElem?_map] at he
          obtain ⟨x, hxj, rfl⟩ := Option.map_eq_some_iff.1 he
          exact (Classical.choose_spec (hch j) x hxj).2.2)
      rw [List.length_map, hl] at hv
      exact hv

def exCells : Ex → List PV
  | .mk o t xs => [.int .u8 o, .str t, .list 3 (encs xs)]
theorem enc_cells (e : Ex) : enc e = .agg (exCells e) := by cases e; rfl

/-- The types that a tree has. -/
structure ExTypes (P : Program) (tE tO tT tA : TypeId) : Prop where
  fs : ∃ f0 f1 f2 : Field, P.underlying tE = some (.struct #[f0, f1, f2]) ∧ (f0.type = tO ∧ f0.offset = 0) ∧ (f1.type = tT ∧ f1.offset = 1) ∧ (f2.type = tA ∧ f2.offset = 2)
  o : P.underlying tO = some (.int .u8)
  t : P.underlying tT = some .string
  a : P.underlying tA = some (.slice tE)
  sizes : P.cellsOf tE = 3 ∧ P.cellsOf tO = 1 ∧ P.cellsOf tT = 1 ∧ P.cellsOf tA = 1

theorem open_ex {P : Program} {tE tO tT tA : TypeId} (hT : ExTypes P tE tO tT tA) {H : Type} {encH : TypeId × Value → H} {W : World} {base : Nat} {spare : Nat → Bool} {held : Bool} :
    ∀ (fuel : Nat) (cs : List Value) (y : DataW H) (p : List MemPlace), DataW.trod encH P W base spare held fuel tE cs = some (y, p) → ∃ e : Ex, Fits e ∧ CellsIn W cs (exCells e) := by
  intro fuel
  induction fuel using Nat.strongRecOn with
  | _ fuel ih =>
    intro cs y p h
    obtain ⟨f0, f1, f2, hE, ⟨a1, a2⟩, ⟨b1, b2⟩, c1, c2⟩ := hT.fs
    obtain ⟨s1, s2, s3, s4⟩ := hT.sizes
    obtain ⟨xs, n, rfl, _, hl, hxl, hf⟩ := DataW.trod_struct hE h
    rw [s1] at hl
    have hxl : xs.length = 3 := hxl
    match cs, hl with
    | [u0, u1, u2], _ =>
    have g0 := hf 0 f0 rfl
    have g1 := hf 1 f1 rfl
    have g2 := hf 2 f2 rfl
    rw [a1, a2, s2, List.getElem?_eq_getElem (by omega)] at g0
    rw [b1, b2, s3, List.getElem?_eq_getElem (by omega)] at g1
    rw [c1, c2, s4, List.getElem?_eq_getElem (by omega)] at g2
    obtain ⟨o, ho, _, hw⟩ := DataW.trod_int hT.o g0
    obtain ⟨t, ht, _, hts⟩ := DataW.trod_string hT.t g1
    obtain rfl : u0 = .int .u8 o := by simpa using ho
    obtain rfl : u1 = .string t := by simpa using ht
    have ho0 : 0 ≤ o := by
      simp only [Lit.wf, Bool.and_eq_true, decide_eq_true_eq] at hw
      have h1 := hw.1
      have : IntKind.u8.min = 0 := by decide
      omega
    have hmax : maxLen ≤ 9223372036854775807 := by decide
    have fin : ∀ ys : List Ex, (ys.length : Int) ≤ 9223372036854775807 → (∀ a, a ∈ ys → Fits a) → VP (fun _ => False) W u2 (.list 3 (encs ys)) → u2.oneCell' = true → ∃ e : Ex, Fits e ∧ CellsIn W [.int .u8 o, .string t, u2] (exCells e) := fun ys h1 h2 h3 h4 => by
      refine ⟨.mk o t ys, .mk o t ys ho0 (by omega) h1 h2, rfl, fun j x q hx hq => ?_⟩
      match j, hx, hq with
      | 0, hx, hq => cases hx; cases hq; exact ⟨.int _ _, rfl⟩
      | 1, hx, hq => cases hx; cases hq; exact ⟨.str _, rfl⟩
      | 2, hx, hq => cases hx; cases hq; exact ⟨h3, h4⟩
    rcases DataW.trod_slice hT.a g2 with ⟨hs, _⟩ | ⟨a, len, cap, elems, rest, m, rfl, hs, _, _, hlc, hcm, hel, hr, _⟩
    · obtain rfl : u2 = .slice none 0 0 := by simpa using hs
      exact fin [] (by simp) (fun a ha => by cases ha) (.list0 3 _ _ fun _ => rfl) rfl
    · obtain rfl : u2 = .slice (some a) len cap := by simpa using hs
      rw [s1] at hr
      obtain ⟨ys, hyl, hy, hv⟩ := row_in (W := W) (base := base) (a := a) (len := len) (cap := cap) (sz := 3) exCells Fits (fun x => by cases x; rfl) (by omega) hlc fun i hi => by
        have h1 := hr i hi
        rw [List.getElem?_eq_getElem (by omega)] at h1
        obtain ⟨c, hc1, hc2⟩ := Option.bind_eq_some_iff.1 h1
        obtain ⟨e, he1, he2⟩ := ih m (by omega) c _ _ hc2
        exact ⟨c, e, hc1, he2, he1⟩
      have e1 : (ys.map fun x => PV.agg (exCells x)) = encs ys := by
        rw [encs_map]
        exact List.map_congr_left fun x _ => (enc_cells x).symm
      rw [e1] at hv
      exact fin ys (by omega) hy hv rfl

end Go.Proofs.Ytaanmljlbhkonaa.AD
