/- What an argument reads as: for each kind of data (whole numbers, bools, texts, slices, structs, trees) what reads by the form's own reader is of that kind (Kd), its numbers are in range and its lists as long as the reach lets them. No program in sight. -/
import Derived.Test.YtmhmappdohddeaaWWords
import Derived.ProofKit
import Derived.OpenShut
import Derived.ShutString
import Derived.SizedLaws
import Derived.Below
import Derived.ChangeArms
namespace Go.Proofs.Ytmhmappdohddeaa.Opening
open Go.RowKit Go.ChangeShapes Go.WideShapes Go.ChangeAt Go.Proofs.YtmhmappdohddeaaW.PrintWords
set_option linter.unusedVariables false

/-- Read with fuel at most F, a value of type t is of kind d, and good. -/
def OpensF {α : Type} (P : Program) (F : Nat) (t : TypeId) (d : Kd α) (good : α → Prop) : Prop :=
  ∀ (H : Type) (enc : TypeId × Value → H) (W : World) (base : Nat) (spare : Nat → Bool) (held : Bool) (fuel : Nat), fuel ≤ F → ∀ (cs : List Value) (y : DataW H) (p : List MemPlace),
    DataW.trod enc P W base spare held fuel t cs = some (y, p) → (∀ n ∈ y.weights P t, n ≤ reachBytes) → ∃ x, d.K W x cs ∧ good x

/-- The fields of a struct from one place on. -/
def FieldsF {α : Type} (P : Program) (F : Nat) (fs : List Field) (off : Nat) (d : Kd α) (good : α → Prop) : Prop :=
  ∀ (H : Type) (enc : TypeId × Value → H) (W : World) (base : Nat) (spare : Nat → Bool) (held : Bool) (fuel : Nat), fuel ≤ F → ∀ (cs : List Value) (ys : List (DataW H × List MemPlace)),
    cs.length = off + d.sz → ys.length = fs.length →
    (∀ (i : Nat) (f : Field), fs[i]? = some f → DataW.trod enc P W base spare held fuel f.type ((cs.drop f.offset).take (P.cellsOf f.type)) = ys[i]?) →
    (∀ n ∈ DataW.weightsEach P (fs.map (·.type)) (ys.map (·.1)), n ≤ reachBytes) → ∃ x, d.K W x (cs.drop off) ∧ good x

section
variable {P : Program} {F : Nat} {t e : TypeId}

theorem opens_int {k : IntKind} (h : P.underlying t = some (.int k)) : OpensF P F t (Kd.int k) (fun x => (Lit.int k x).wf = true) := by
  intro H enc W base spare held fuel _ cs y p hy _
  obtain ⟨n, rfl, _, hw⟩ := DataW.trod_int h hy
  exact ⟨n, rfl, hw⟩

theorem opens_bool (h : P.underlying t = some .bool) : OpensF P F t Kd.bool (fun _ => True) := by
  intro H enc W base spare held fuel _ cs y p hy _
  obtain ⟨n, rfl, _⟩ := DataW.trod_bool h hy
  exact ⟨n, rfl, trivial⟩

theorem opens_string (h : P.underlying t = some .string) : OpensF P F t Kd.string (fun s => s.size ≤ 140737488351232) := by
  intro H enc W base spare held fuel _ cs y p hy hw
  obtain ⟨s, rfl, hx, hs⟩ := DataW.trod_string h hy
  refine ⟨s, rfl, ?_⟩
  obtain ⟨rfl, _⟩ := Prod.mk.inj hx
  have := hw s.data.toList.length (by simp [DataW.weights])
  simpa [reachBytes] using this

theorem cells?_some {w : World} {base : Nat} {a : Addr} {n : Nat} {cs : List Value} (h : w.cells? base a n = some cs) : cs.length = n ∧ ∀ (i : Nat) (u : Value), cs[i]? = some u → w.cell? (a.add i) = some u := by
  unfold World.cells? at h
  split at h
  · have hl := mapM_some_length h
    rw [List.length_range] at hl
    refine ⟨hl, fun i u hu => ?_⟩
    have hi : i < n := by
      have := (List.getElem?_eq_some_iff.1 hu).1
      omega
    have := mapM_some_get h i i (by simp [hi])
    rw [this]; exact hu
  · cases h

theorem weightsAll_mem {H : Type} {e : TypeId} : ∀ {l : List (DataW H)} {i : Nat} {d : DataW H}, l[i]? = some d → ∀ n ∈ d.weights P e, n ∈ DataW.weightsAll P e l
  | [], _, _, h, _, _ => by simp at h
  | d0 :: r, 0, d, h, n, hn => by
    simp only [List.getElem?_cons_zero, Option.some.injEq] at h
    subst h
    simp only [DataW.weightsAll, List.mem_append]
    exact .inl hn
  | d0 :: r, i + 1, d, h, n, hn => by
    simp only [List.getElem?_cons_succ] at h
    simp only [DataW.weightsAll, List.mem_append]
    exact .inr (weightsAll_mem h n hn)

theorem opens_slice {α : Type} {d : Kd α} {good : α → Prop} {B : Nat} (h : P.underlying t = some (.slice e)) (hc : P.cellsOf e = d.sz) (hB : P.bytesOf e = B) (he : OpensF P F e d good) :
    OpensF P (F + 1) t (Kd.slice e d) (fun xs => xs.length ≤ maxLen ∧ xs.length * B ≤ 140737488351232 ∧ ∀ x ∈ xs, good x) := by
  intro H enc W base spare held fuel hF cs y p hy hw
  rcases DataW.trod_slice h hy with ⟨rfl, hx⟩ | ⟨a, len, cap, elems, rest, n, rfl, rfl, hx, _, hlc, hcm, hl, hel, _, _⟩
  · exact ⟨[], ⟨none, 0, rfl, Nat.le_refl _, rfl, by simp, fun h => absurd h (by simp)⟩, by simp [maxLen], by simp, by simp⟩
  · obtain ⟨rfl, _⟩ := Prod.mk.inj hx
    have hrow : (elems.length + rest.length) * B ≤ reachBytes := by
      have := hw ((elems.length + rest.length) * B) (by simp [DataW.weights, h, hB])
      exact this
    have key : ∀ m, m ≤ len → ∃ xs : List α, xs.length = m ∧ (∀ (j : Nat) (x : α), xs[j]? = some x → ∃ c, c.length = d.sz ∧ d.K W x c ∧ ∀ i u, c[i]? = some u → W.cell? (a.add (j * d.sz + i)) = some u) ∧ ∀ x ∈ xs, good x := by
      intro m
      induction m with
      | zero => intro _; exact ⟨[], rfl, fun j x hx => by simp at hx, by simp⟩
      | succ m ih =>
        intro hm
        obtain ⟨xs, hxl, hxs, hg⟩ := ih (by omega)
        have h1 := hel m (by omega)
        have hme : m < elems.length := by omega
        rw [List.getElem?_eq_getElem hme] at h1
        obtain ⟨c, hcc, hct⟩ := Option.bind_eq_some_iff.1 h1
        obtain ⟨hcl, hcg⟩ := cells?_some hcc
        obtain ⟨x, hK, hgx⟩ := he H enc W base spare held n (by omega) c elems[m].1 elems[m].2 hct (fun q hq => hw q (by
          simp only [DataW.weights, h, List.mem_cons, List.mem_append]
          exact .inr (.inl (weightsAll_mem (i := m) (by simp [hme]) q hq))))
        refine ⟨xs ++ [x], by simp [hxl], fun j z hz => ?_, fun z hz => ?_⟩
        · rcases Nat.lt_or_ge j xs.length with hj | hj
          · rw [List.getElem?_append_left hj] at hz
            exact hxs j z hz
          · rw [List.getElem?_append_right hj] at hz
            have hj2 : j = m := by
              have := (List.getElem?_eq_some_iff.1 hz).1
              simp at this
              omega
            subst hj2
            rw [hxl, Nat.sub_self] at hz
            obtain rfl : x = z := by simpa using hz
            refine ⟨c, by rw [hcl, hc], hK, fun i u hu => ?_⟩
            have := hcg i u hu
            rw [← this, hc]
            congr 1
            unfold Addr.add
            by_cases h0 : j * d.sz = 0
            · rw [if_pos h0, h0, Nat.zero_add]
            · rw [if_neg h0, if_neg (by omega)]
              by_cases hi0 : i = 0
              · subst hi0; simp
              · rw [if_neg hi0]
                simp [Nat.add_assoc]
        · rcases List.mem_append.1 hz with hz | hz
          · exact hg z hz
          · rw [List.mem_singleton.1 hz]; exact hgx
    obtain ⟨xs, hxl, hxs, hg⟩ := key len (Nat.le_refl _)
    have hle : xs.length * B ≤ 140737488351232 := by
      have : xs.length * B ≤ (elems.length + rest.length) * B := Nat.mul_le_mul_right _ (by omega)
      have h2 : reachBytes = 140737488351232 := rfl
      omega
    refine ⟨xs, ⟨some a, cap, by rw [hxl], by omega, rfl, by unfold maxLen at hcm; omega, fun _ => ⟨a, rfl, hxs⟩⟩, by omega, hle, hg⟩

theorem opens_struct {α : Type} {d : Kd α} {good : α → Prop} {fs : Array Field} (h : P.underlying t = some (.struct fs)) (hc : P.cellsOf t = d.sz) (hf : FieldsF P F fs.toList 0 d good) : OpensF P (F + 1) t d good := by
  intro H enc W base spare held fuel hF cs y p hy hw
  obtain ⟨xs, n, rfl, hx, hcl, hl, hfs⟩ := DataW.trod_struct h hy
  obtain ⟨rfl, _⟩ := Prod.mk.inj hx
  obtain ⟨x, hK, hg⟩ := hf H enc W base spare held n (by omega) cs xs (by rw [hcl, hc]; omega) (by simpa using hl) (fun i f hi => hfs i f (by simpa using hi)) (fun q hq => hw q (by simpa [DataW.weights, h] using hq))
  exact ⟨x, by simpa using hK, hg⟩

theorem fields_last {α : Type} {d : Kd α} {good : α → Prop} {f : Field} {off : Nat} (ho : f.offset = off) (hc : P.cellsOf f.type = d.sz) (hf : OpensF P F f.type d good) : FieldsF P F [f] off d good := by
  intro H enc W base spare held fuel hF cs ys hcs hl hfs hw
  match ys, hl with
  | [y], _ =>
    have h1 := hfs 0 f rfl
    rw [ho, hc, List.take_of_length_le (by rw [List.length_drop]; omega)] at h1
    exact hf H enc W base spare held fuel hF _ y.1 y.2 h1 (fun q hq => hw q (by simpa [DataW.weightsEach] using hq))

theorem fields_cons {α β : Type} {d : Kd α} {d2 : Kd β} {good : α → Prop} {good2 : β → Prop} {f : Field} {fs : List Field} {off : Nat} (ho : f.offset = off) (hc : P.cellsOf f.type = d.sz) (hf : OpensF P F f.type d good) (hr : FieldsF P F fs (off + d.sz) d2 good2) :
    FieldsF P F (f :: fs) off (Kd.pair d d2) (fun x => good x.1 ∧ good2 x.2) := by
  intro H enc W base spare held fuel hF cs ys hcs hl hfs hw
  match ys, hl with
  | y :: yr, hl =>
    have hsz : (Kd.pair d d2).sz = d.sz + d2.sz := rfl
    have h1 := hfs 0 f rfl
    rw [ho, hc] at h1
    obtain ⟨x, hK, hg⟩ := hf H enc W base spare held fuel hF _ y.1 y.2 h1 (fun q hq => hw q (by simp [DataW.weightsEach, hq]))
    obtain ⟨x2, hK2, hg2⟩ := hr H enc W base spare held fuel hF cs yr (by rw [hcs, hsz]; omega) (by simpa using hl) (fun i f2 hi => hfs (i + 1) f2 (by simpa using hi)) (fun q hq => hw q (by simp only [List.map_cons, DataW.weightsEach, List.mem_append]; exact .inr hq))
    refine ⟨(x, x2), ⟨_, _, ?_, hK, hK2⟩, hg, hg2⟩
    rw [← List.drop_drop, List.take_append_drop]

theorem opens_iso {α β : Type} {d : Kd α} {good : α → Prop} (f : β → α) (g : α → β) (hfg : ∀ x, f (g x) = x) (h : OpensF P F t d good) : OpensF P F t (Kd.iso d f) (fun x => good (f x)) := by
  intro H enc W base spare held fuel hF cs y p hy hw
  obtain ⟨x, hK, hg⟩ := h H enc W base spare held fuel hF cs y p hy hw
  exact ⟨g x, by show d.K W (f (g x)) cs; rw [hfg]; exact hK, by show good (f (g x)); rw [hfg]; exact hg⟩

theorem opens_mono {α : Type} {d : Kd α} {good good2 : α → Prop} (hg : ∀ x, good x → good2 x) (h : OpensF P F t d good) : OpensF P F t d good2 := by
  intro H enc W base spare held fuel hF cs y p hy hw
  obtain ⟨x, hK, hx⟩ := h H enc W base spare held fuel hF cs y p hy hw
  exact ⟨x, hK, hg x hx⟩

theorem opens_le {α : Type} {d : Kd α} {good : α → Prop} {F2 : Nat} (hF2 : F2 ≤ F) (h : OpensF P F t d good) : OpensF P F2 t d good :=
  fun H enc W base spare held fuel hF => h H enc W base spare held fuel (Nat.le_trans hF hF2)

theorem opens_zero {α : Type} {d : Kd α} {good : α → Prop} : OpensF P 0 t d good := by
  intro H enc W base spare held fuel hF cs y p hy hw
  obtain rfl : fuel = 0 := by omega
  simp [DataW.trod] at hy

end

/-- An argument of a struct type: what it reads as. -/
theorem open_arg {α : Type} {P : Program} {t : TypeId} {d : Kd α} {good : α → Prop} (ho : ∀ F, OpensF P F t d good) {H : Type} {enc : TypeId × Value → H} {W : World} {base : Nat} {spare : Nat → Bool} {held : Bool} {v : Value} {y : DataW H} {p : List MemPlace}
    (h : DataW.Trod enc P W base spare held t v y p) (hw : ∀ n ∈ y.weights P t, n ≤ reachBytes) : ∃ x, d.K W x v.cells.toList ∧ good x := by
  obtain ⟨fuel, hf⟩ := h
  exact ho fuel H enc W base spare held fuel (Nat.le_refl _) _ y p hf hw

theorem okWide_agg {P : Program} {W : World} {r : Reach} {base : Nat} {t : TypeId} {v : Value} {fs : Array Field} (ht : P.underlying t = some (.struct fs)) (h : Value.okWide P W r base t v) : ∃ cs, v = .agg cs := by
  unfold Value.okWide at h
  rw [ht] at h
  obtain ⟨cs, rfl, _⟩ := h
  exact ⟨cs, rfl⟩

theorem weights_of {H : Type} {P : Program} {ts : List TypeId} {ds : List (DataW H)} (h : (DataW.weightsEach P ts ds).all (· ≤ reachBytes) = true) {j : Nat} {t : TypeId} {d : DataW H} (ht : ts[j]? = some t) (hd : ds[j]? = some d) : ∀ n ∈ d.weights P t, n ≤ reachBytes := by
  intro n hn
  have := List.all_eq_true.1 h n (DataW.weights_mem_each ht hd n hn)
  simpa using this

end Go.Proofs.Ytmhmappdohddeaa.Opening
