/- Chapter 20: what a caller hands in as clauses: a list of clauses. -/
import Derived.Test.YtaanmljlbhkonaaT10
import Derived.Test.YtaanmljlbhkonaaT12
namespace Go.Proofs.Ytaanmljlbhkonaa.AD
open Go.Proofs
set_option linter.unusedVariables false
set_option linter.unusedSimpArgs false
set_option maxRecDepth 100000

def clCells : Cl → List PV
  | .mk k (.mk o t xs) (.mk o2 t2 xs2) b => [.int .u8 k, .int .u8 o, .str t, .list 3 (encs xs), .int .u8 o2, .str t2, .list 3 (encs xs2), .list 8 (encCs b)]
theorem encC_cells (c : Cl) : encC c = .agg (clCells c) := by
  obtain ⟨k, ⟨o, t, xs⟩, ⟨o2, t2, xs2⟩, b⟩ := c
  rfl

structure ClTypes (P : Program) (tC tK tE tB : TypeId) : Prop where
  fs : ∃ f0 f1 f2 f3 : Field, P.underlying tC = some (.struct #[f0, f1, f2, f3]) ∧ (f0.type = tK ∧ f0.offset = 0) ∧ (f1.type = tE ∧ f1.offset = 1) ∧ (f2.type = tE ∧ f2.offset = 4) ∧ (f3.type = tB ∧ f3.offset = 7)
  k : P.underlying tK = some (.int .u8)
  b : P.underlying tB = some (.slice tC)
  sizes : P.cellsOf tC = 8 ∧ P.cellsOf tK = 1 ∧ P.cellsOf tE = 3 ∧ P.cellsOf tB = 1

theorem open_cls_of {P : Program} {tC tK tE tB : TypeId} (hC : ClTypes P tC tK tE tB) {H : Type} {encH : TypeId × Value → H} {W : World} {base : Nat} {spare : Nat → Bool} {held : Bool} (fuel : Nat)
    (ih : ∀ m, m < fuel → ∀ (cs : List Value) (y : DataW H) (p : List MemPlace), DataW.trod encH P W base spare held m tC cs = some (y, p) → ∃ c : Cl, FitsC c ∧ CellsIn W cs (clCells c)) (u : Value) (y : DataW H) (p : List MemPlace) (g : DataW.trod encH P W base spare held fuel tB [u] = some (y, p)) :
    ∃ l : List Cl, (l.length : Int) ≤ 9223372036854775807 ∧ (∀ a, a ∈ l → FitsC a) ∧ VP (fun _ => False) W u (.list 8 (encCs l)) ∧ u.oneCell' = true := by
  obtain ⟨s1, s2, s3, s4⟩ := hC.sizes
  have hmax : maxLen ≤ 9223372036854775807 := by decide
  rcases DataW.trod_slice hC.b g with ⟨hs, _⟩ | ⟨a, len, cap, elems, rest, m, rfl, hs, _, _, hlc, hcm, hel, hr, _⟩
  · obtain rfl : u = .slice none 0 0 := by simpa using hs
    exact ⟨[], by simp, (fun a ha => by cases ha), .list0 8 _ _ fun _ => rfl, rfl⟩
  · obtain rfl : u = .slice (some a) len cap := by simpa using hs
    rw [s1] at hr
    obtain ⟨ys, hyl, hy, hv⟩ := row_in (W := W) (base := base) (a := a) (len := len) (cap := cap) (sz := 8) clCells FitsC (fun x => by obtain ⟨k, ⟨o, t, xs⟩, ⟨o2, t2, xs2⟩, b⟩ := x; rfl) (by omega) hlc fun i hi => by
      have h1 := hr i hi
      rw [List.getElem?_eq_getElem (by omega)] at h1
      obtain ⟨c, hc1, hc2⟩ := Option.bind_eq_some_iff.1 h1
      obtain ⟨e, he1, he2⟩ := ih m (by omega) c _ _ hc2
      exact ⟨c, e, hc1, he2, he1⟩
    have e1 : (ys.map fun x => PV.agg (clCells x)) = encCs ys := by
      rw [encCs_map]
      exact List.map_congr_left fun x _ => (encC_cells x).symm
    rw [e1] at hv
    exact ⟨ys, by omega, hy, hv, rfl⟩

theorem open_cl {P : Program} {tC tK tE tB tO tT tA : TypeId} (hC : ClTypes P tC tK tE tB) (hT : ExTypes P tE tO tT tA) {H : Type} {encH : TypeId × Value → H} {W : World} {base : Nat} {spare : Nat → Bool} {held : Bool} :
    ∀ (fuel : Nat) (cs : List Value) (y : DataW H) (p : List MemPlace), DataW.trod encH P W base spare held fuel tC cs = some (y, p) → ∃ c : Cl, FitsC c ∧ CellsIn W cs (clCells c) := by
  intro fuel
  induction fuel using Nat.strongRecOn with
  | _ fuel ih =>
    intro cs y p h
    obtain ⟨f0, f1, f2, f3, hE, ⟨a1, a2⟩, ⟨b1, b2⟩, ⟨c1, c2⟩, d1, d2⟩ := hC.fs
    obtain ⟨s1, s2, s3, s4⟩ := hC.sizes
    obtain ⟨xs, n, rfl, _, hl, hxl, hf⟩ := DataW.trod_struct hE h
    rw [s1] at hl
    have hxl : xs.length = 4 := hxl
    match cs, hl with
    | [u0, u1, u2, u3, u4, u5, u6, u7], _ =>
    have g0 := hf 0 f0 rfl
    have g1 := hf 1 f1 rfl
    have g2 := hf 2 f2 rfl
    have g3 := hf 3 f3 rfl
    rw [a1, a2, s2, List.getElem?_eq_getElem (by omega)] at g0
    rw [b1, b2, s3, List.getElem?_eq_getElem (by omega)] at g1
    rw [c1, c2, s3, List.getElem?_eq_getElem (by omega)] at g2
    rw [d1, d2, s4, List.getElem?_eq_getElem (by omega)] at g3
    obtain ⟨k, hk, _, hw⟩ := DataW.trod_int hC.k g0
    obtain rfl : u0 = .int .u8 k := by simpa using hk
    have hk0 : 0 ≤ k := by
      simp only [Lit.wf, Bool.and_eq_true, decide_eq_true_eq] at hw
      have h1 := hw.1
      have : IntKind.u8.min = 0 := by decide
      omega
    obtain ⟨⟨o, t, xs1⟩, e1, e2⟩ := open_ex hT _ _ _ _ g1
    obtain ⟨⟨o2, t2, xs2⟩, e3, e4⟩ := open_ex hT _ _ _ _ g2
    obtain ⟨b, b3, b4, b5, b6⟩ := open_cls_of hC n (fun m hm => ih m (by omega)) u7 _ _ g3
    refine ⟨.mk k (.mk o t xs1) (.mk o2 t2 xs2) b, .mk _ _ _ _ hk0 e1 e3 b3 b4, rfl, fun j x q hx hq => ?_⟩
    match j, hx, hq with
    | 0, hx, hq => cases hx; cases hq; exact ⟨.int _ _, rfl⟩
    | 1, hx, hq => exact e2.2 0 x q hx hq
    | 2, hx, hq => exact e2.2 1 x q hx hq
    | 3, hx, hq => exact e2.2 2 x q hx hq
    | 4, hx, hq => exact e4.2 0 x q hx hq
    | 5, hx, hq => exact e4.2 1 x q hx hq
    | 6, hx, hq => exact e4.2 2 x q hx hq
    | 7, hx, hq => cases hx; cases hq; exact ⟨b5, b6⟩

theorem open_cls {P : Program} {tC tK tE tB tO tT tA : TypeId} (hC : ClTypes P tC tK tE tB) (hT : ExTypes P tE tO tT tA) {H : Type} {encH : TypeId × Value → H} {W : World} {base : Nat} {spare : Nat → Bool} {held : Bool} (fuel : Nat) (u : Value) (y : DataW H) (p : List MemPlace) (g : DataW.trod encH P W base spare held fuel tB [u] = some (y, p)) :
    ∃ l : List Cl, (l.length : Int) ≤ 9223372036854775807 ∧ (∀ a, a ∈ l → FitsC a) ∧ VP (fun _ => False) W u (.list 8 (encCs l)) := by
  obtain ⟨l, h1, h2, h3, _⟩ := open_cls_of hC fuel (fun m _ cs y p h => open_cl hC hT m cs y p h) u y p g
  exact ⟨l, h1, h2, h3⟩

end Go.Proofs.Ytaanmljlbhkonaa.AD
