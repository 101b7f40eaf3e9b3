/- What an argument reads as: rows; licensees. -/
import Derived.Test.YthmlninecfjjgaaL1
import Derived.ChangeArms
import Derived.SizedLaws
namespace Go.Proofs.Ythmlninecfjjgaa.AD
open Go.Proofs
set_option linter.unusedVariables false
set_option linter.unusedSimpArgs false
set_option maxRecDepth 100000

/-- Cells that stand for these. -/
def CellsIn (W : World) (cs : List Value) (ps : List PV) : Prop := cs.length = ps.length ∧ ∀ (j : Nat) (x : Value) (p : PV), cs[j]? = some x → ps[j]? = some p → VP (fun _ => False) W x p ∧ x.oneCell' = true

theorem cells?_out {w : World} {base : Nat} {a : Addr} {n : Nat} {cs : List Value} (h : w.cells? base a n = some cs) : cs.length = n ∧ ∀ (i : Nat) (u : Value), cs[i]? = some u → w.cell? (a.add i) = some u := by
  unfold World.cells? at h
  split at h
  · have hl := mapM_some_length h
    rw [List.length_range] at hl
    refine ⟨hl, fun i u hu => ?_⟩
    have hi : i < n := by
      have := (List.getElem?_eq_some_iff.1 hu).1
      omega
    have := mapM_some_get h i i (by simp [hi])
    rw [this]; exact hu
  · cases h

theorem cell_spot {w : World} {a : Addr} {v : Value} (h : w.cell? a = some v) : a.spot = none ∧ a.block < w.heap.size := by
  unfold World.cell? at h
  split at h
  · rename_i hb
    split at h
    · cases h
    · rename_i hs
      exact ⟨by simpa using hs, (Array.getElem?_eq_some_iff.1 hb).1⟩
  · cases h

/-- A row of elements of more cells than one, each read. -/
theorem row_in {W : World} {base : Nat} {a : Addr} {len cap sz : Nat} {α : Type} (cellsOf : α → List PV) (good : α → Prop) (hsz : ∀ x, (cellsOf x).length = sz) (h0 : 0 < sz) (hc : len ≤ cap)
    (hel : ∀ i, i < len → ∃ cs x, W.cells? base (a.add (i * sz)) sz = some cs ∧ CellsIn W cs (cellsOf x) ∧ good x) :
    ∃ xs : List α, xs.length = len ∧ (∀ x, x ∈ xs → good x) ∧ VP (fun _ => False) W (.slice (some a) len cap) (.list sz (xs.map fun x => .agg (cellsOf x))) := by
  have key : ∀ m, m ≤ len → ∃ xs : List α, xs.length = m ∧ ∀ (j : Nat) (x : α), xs[j]? = some x → good x ∧ ∃ cs, W.cells? base (a.add (j * sz)) sz = some cs ∧ CellsIn W cs (cellsOf x) := by
    intro m
    induction m with
    | zero => intro _; exact ⟨[], rfl, fun j x h => by simp at h⟩
    | succ m ih =>
      intro hm
      obtain ⟨xs, hl, hx⟩ := ih (by omega)
      obtain ⟨cs, x, h1, h2, h3⟩ := hel m (by omega)
      refine ⟨xs ++ [x], by simp [hl], fun j z hz => ?_⟩
      rcases Nat.lt_or_ge j xs.length with hj | hj
      · rw [List.getElem?_append_left hj] at hz; exact hx j z hz
      · rw [List.getElem?_append_right hj] at hz
        have hj2 : j = m := by have := get_lt hz; simp at this; omega
        subst hj2
        rw [hl, Nat.sub_self] at hz
        obtain rfl : x = z := by simpa using hz
        exact ⟨h3, cs, h1, h2⟩
  obtain ⟨xs, hl, hx⟩ := key len (Nat.le_refl _)
  refine ⟨xs, hl, fun x hm => ?_, ?_⟩
  · obtain ⟨j, hj⟩ := List.mem_iff_getElem?.1 hm
    exact (hx j x hj).1
  · rcases Nat.eq_zero_or_pos len with h | h
    · subst h
      obtain rfl : xs = [] := List.length_eq_zero_iff.1 hl
      exact .list0 sz _ _ fun e => by cases e
    · obtain ⟨_, cs0, g1, g2⟩ := hx 0 xs[0] (List.getElem?_eq_getElem (by omega))
      obtain ⟨g3, g4⟩ := cells?_out g1
      have g5 := g4 0 cs0[0] (List.getElem?_eq_getElem (by omega))
      have hadd : (a.add (0 * sz)).add 0 = a := by simp [Addr.add]
      rw [hadd] at g5
      obtain ⟨g6, g7⟩ := cell_spot g5
      obtain ⟨b, off, sp⟩ := a
      simp only at g6 g7
      subst g6
      have hch : ∀ j, ∃ v : Value, ∀ x, xs[j]? = some x → v.cells.size = sz ∧ (∀ (i : Nat) (u : Value), v.cells[i]? = some u → u.oneCell' = true ∧ W.cell? ⟨b, off + (j * sz + i), none⟩ = some u) ∧ VP (fun _ => False) W v (.agg (cellsOf x)) := fun j => by
        by_cases hj : j < xs.length
        · obtain ⟨_, cs, k1, k2⟩ := hx j xs[j] (List.getElem?_eq_getElem hj)
          obtain ⟨k3, k4⟩ := cells?_out k1
          refine ⟨.agg cs.toArray, fun x hxj => ?_⟩
          rw [List.getElem?_eq_getElem hj] at hxj
          cases hxj
          refine ⟨by simp [Value.cells, k3], fun i u hu => ?_, .agg _ _ (by simp [k3, hsz]) (fun i u p hu hp => ?_) fun i u hu => ?_⟩
          · have hu' : cs[i]? = some u := by simpa [Value.cells] using hu
            have hi : i < (cellsOf xs[j]).length := by have := get_lt hu'; rw [hsz]; omega
            refine ⟨(k2.2 i u _ hu' (List.getElem?_eq_getElem hi)).2, ?_⟩
            have := k4 i u hu'
            rw [← this]
            simp only [add_none, Nat.add_assoc]
          · exact (k2.2 i u p (by simpa using hu) hp).1
          · have hu' : cs[i]? = some u := by simpa using hu
            have hi : i < (cellsOf xs[j]).length := by have := get_lt hu'; rw [hsz]; omega
            exact (k2.2 i u _ hu' (List.getElem?_eq_getElem hi)).2
        · exact ⟨default, fun x hxj => absurd (get_lt hxj) hj⟩
      have hv := VP.list (M := fun _ => False) (w := W) b off cap sz (xs.map fun x => PV.agg (cellsOf x)) (fun j => Classical.choose (hch j)) (fun h => h) g7 (by simp [hl]; exact hc)
        (fun j e he => by
          rw [List.getElem?_map] at he
          obtain ⟨x, hxj, rfl⟩ := Option.map_eq_some_iff.1 he
          exact (Classical.choose_spec (hch j) x hxj).1)
        (fun j e he => by
          rw [List.getElem?_map] at he
          obtain ⟨x, hxj, rfl⟩ := Option.map_eq_some_iff.1 he
          exact (Classical.choose_spec (hch j) x hxj).2.1)
        (fun j e he => by
          rw [List.getElem?_map] at he
          obtain ⟨x, hxj, rfl⟩ := Option.map_eq_some_iff.1 he
          exact (Classical.choose_spec (hch j) x hxj).2.2)
      rw [List.length_map, hl] at hv
      exact hv

def liCells : Li → List PV
  | .mk o t k xs => [.int .u8 o, .str t, .int .i64 k, .list 4 (encLs xs)]
theorem encL_cells (e : Li) : encL e = .agg (liCells e) := by cases e; rfl

/-- The types that licensees have. -/
structure LiTypes (P : Program) (tE tO tT tK tA : TypeId) : Prop where
  fs : ∃ f0 f1 f2 f3 : Field, P.underlying tE = some (.struct #[f0, f1, f2, f3]) ∧ (f0.type = tO ∧ f0.offset = 0) ∧ (f1.type = tT ∧ f1.offset = 1) ∧ (f2.type = tK ∧ f2.offset = 2) ∧ (f3.type = tA ∧ f3.offset = 3)
  o : P.underlying tO = some (.int .u8)
  t : P.underlying tT = some .string
  k : P.underlying tK = some (.int .i64)
  a : P.underlying tA = some (.slice tE)
  sizes : P.cellsOf tE = 4 ∧ P.cellsOf tO = 1 ∧ P.cellsOf tT = 1 ∧ P.cellsOf tK = 1 ∧ P.cellsOf tA = 1

theorem open_li {P : Program} {tE tO tT tK tA : TypeId} (hT : LiTypes P tE tO tT tK tA) {H : Type} {encH : TypeId × Value → H} {W : World} {base : Nat} {spare : Nat → Bool} {held : Bool} :
    ∀ (fuel : Nat) (cs : List Value) (y : DataW H) (p : List MemPlace), DataW.trod encH P W base spare held fuel tE cs = some (y, p) → ∃ e : Li, FitsL e ∧ CellsIn W cs (liCells e) := by
  intro fuel
  induction fuel using Nat.strongRecOn with
  | _ fuel ih =>
    intro cs y p h
    obtain ⟨f0, f1, f2, f3, hE, ⟨a1, a2⟩, ⟨b1, b2⟩, ⟨c1, c2⟩, d1, d2⟩ := hT.fs
    obtain ⟨s1, s2, s3, s4, s5⟩ := hT.sizes
    obtain ⟨xs, n, rfl, _, hl, hxl, hf⟩ := DataW.trod_struct hE h
    rw [s1] at hl
    have hxl : xs.length = 4 := hxl
    match cs, hl with
    | [u0, u1, u2, u3], _ =>
    have g0 := hf 0 f0 rfl
    have g1 := hf 1 f1 rfl
    have g2 := hf 2 f2 rfl
    have g3 := hf 3 f3 rfl
    rw [a1, a2, s2, List.getElem?_eq_getElem (by omega)] at g0
    rw [b1, b2, s3, List.getElem?_eq_getElem (by omega)] at g1
    rw [c1, c2, s4, List.getElem?_eq_getElem (by omega)] at g2
    rw [d1, d2, s5, List.getElem?_eq_getElem (by omega)] at g3
    obtain ⟨o, ho, _, hw⟩ := DataW.trod_int hT.o g0
    obtain ⟨t, ht, _, hts⟩ := DataW.trod_string hT.t g1
    obtain ⟨k, hk, _, hkw⟩ := DataW.trod_int hT.k g2
    obtain rfl : u0 = .int .u8 o := by simpa using ho
    obtain rfl : u1 = .string t := by simpa using ht
    obtain rfl : u2 = .int .i64 k := by simpa using hk
    have ho0 : 0 ≤ o := by
      simp only [Lit.wf, Bool.and_eq_true, decide_eq_true_eq] at hw
      have h1 := hw.1
      have : IntKind.u8.min = 0 := by decide
      omega
    have hk0 : -9223372036854775808 ≤ k ∧ k ≤ 9223372036854775807 := by
      simp only [Lit.wf, Bool.and_eq_true, decide_eq_true_eq] at hkw
      have h1 : IntKind.i64.min = -9223372036854775808 := by decide
      have h2 : IntKind.i64.max = 9223372036854775807 := by decide
      omega
    have hmax : maxLen ≤ 9223372036854775807 := by decide
    have fin : ∀ ys : List Li, (ys.length : Int) ≤ 9223372036854775807 → (∀ a, a ∈ ys → FitsL a) → VP (fun _ => False) W u3 (.list 4 (encLs ys)) → u3.oneCell' = true → ∃ e : Li, FitsL e ∧ CellsIn W [.int .u8 o, .string t, .int .i64 k, u3] (liCells e) := fun ys h1 h2 h3 h4 => by
      refine ⟨.mk o t k ys, .mk o t k ys ho0 hk0.1 hk0.2 (by omega) h1 h2, rfl, fun j x q hx hq => ?_⟩
      match j, hx, hq with
      | 0, hx, hq => cases hx; cases hq; exact ⟨.int _ _, rfl⟩
      | 1, hx, hq => cases hx; cases hq; exact ⟨.str _, rfl⟩
      | 2, hx, hq => cases hx; cases hq; exact ⟨.int _ _, rfl⟩
      | 3, hx, hq => cases hx; cases hq; exact ⟨h3, h4⟩
    rcases DataW.trod_slice hT.a g3 with ⟨hs, _⟩ | ⟨a, len, cap, elems, rest, m, rfl, hs, _, _, hlc, hcm, hel, hr, _⟩
    · obtain rfl : u3 = .slice none 0 0 := by simpa using hs
      exact fin [] (by simp) (fun a ha => by cases ha) (.list0 4 _ _ fun _ => rfl) rfl
    · obtain rfl : u3 = .slice (some a) len cap := by simpa using hs
      rw [s1] at hr
      obtain ⟨ys, hyl, hy, hv⟩ := row_in (W := W) (base := base) (a := a) (len := len) (cap := cap) (sz := 4) liCells FitsL (fun x => by cases x; rfl) (by omega) hlc fun i hi => by
        have h1 := hr i hi
        rw [List.getElem?_eq_getElem (by omega)] at h1
        obtain ⟨c, hc1, hc2⟩ := Option.bind_eq_some_iff.1 h1
        obtain ⟨e, he1, he2⟩ := ih m (by omega) c _ _ hc2
        exact ⟨c, e, hc1, he2, he1⟩
      have e1 : (ys.map fun x => PV.agg (liCells x)) = encLs ys := by
        rw [encLs_map]
        exact List.map_congr_left fun x _ => (encL_cells x).symm
      rw [e1] at hv
      exact fin ys (by omega) hy hv rfl

end Go.Proofs.Ythmlninecfjjgaa.AD
