/- A plainer machine, five: rows of elements; what an operation's reading says of its run. -/
import Derived.Test.YtkjidklifmcpnaaA4
import Derived.Laws.CopyRow
import Derived.Laws.Append
import Derived.Laws.AppendOwn
import Derived.Laws.Tables
import Derived.Laws.Small
import Derived.Laws.BytesString
import Derived.Laws.IdiomStrings
import Derived.Great.BuildSlice
namespace Go.Proofs.Ytkjidklifmcpnaa.AD
set_option linter.unusedVariables false

theorem add_none (b off n : Nat) : (⟨b, off, none⟩ : Addr).add n = ⟨b, off + n, none⟩ := by
  unfold Addr.add; split <;> simp_all

/-- Elements, so many cells each, in a row of cells. -/
def RowOf (M : Nat → Prop) (w : World) (sz : Nat) (f : Nat → Option Value) (es : List PV) : Prop :=
  ∃ c : Nat → Value, (∀ (j : Nat) (e : PV), es[j]? = some e → (c j).cells.size = sz) ∧
    (∀ (j : Nat) (e : PV), es[j]? = some e → ∀ (i : Nat) (x : Value), (c j).cells[i]? = some x → x.oneCell' = true ∧ f (j * sz + i) = some x) ∧
    ∀ (j : Nat) (e : PV), es[j]? = some e → VP M w (c j) e

theorem idx_lt {j n i sz : Nat} (hj : j < n) (hi : i < sz) : j * sz + i < n * sz := by
  have : (j + 1) * sz ≤ n * sz := Nat.mul_le_mul_right _ hj
  rw [Nat.add_mul, Nat.one_mul] at this
  omega
theorem get_lt {α : Type} {l : List α} {j : Nat} {x : α} (h : l[j]? = some x) : j < l.length := (List.getElem?_eq_some_iff.1 h).1
theorem aget_lt {α : Type} {l : Array α} {j : Nat} {x : α} (h : l[j]? = some x) : j < l.size := (Array.getElem?_eq_some_iff.1 h).1

section row
variable {M : Nat → Prop} {w : World} {sz : Nat} {f g h : Nat → Option Value} {es ds : List PV}

theorem RowOf.nil : RowOf M w sz f [] := ⟨fun _ => default, fun j e h => by simp at h, fun j e h => by simp at h, fun j e h => by simp at h⟩

theorem RowOf.congr (hr : RowOf M w sz f es) (he : ∀ k, k < es.length * sz → g k = f k) : RowOf M w sz g es := by
  obtain ⟨c, h1, h2, h3⟩ := hr
  refine ⟨c, h1, fun j e hj i x hx => ⟨(h2 j e hj i x hx).1, ?_⟩, h3⟩
  rw [he _ (idx_lt (get_lt hj) (by rw [← h1 j e hj]; exact aget_lt hx))]
  exact (h2 j e hj i x hx).2

theorem RowOf.mono {M' : Nat → Prop} {w' : World} (hr : RowOf M w sz f es) (hs : Stays M w M' w') : RowOf M' w' sz f es := by
  obtain ⟨c, h1, h2, h3⟩ := hr
  exact ⟨c, h1, h2, fun j e hj => (h3 j e hj).mono hs⟩

theorem RowOf.take (hr : RowOf M w sz f es) (n : Nat) : RowOf M w sz f (es.take n) := by
  obtain ⟨c, h1, h2, h3⟩ := hr
  have key : ∀ (j : Nat) (e : PV), (es.take n)[j]? = some e → es[j]? = some e := fun j e hj => by
    rw [List.getElem?_take] at hj
    split at hj
    · exact hj
    · cases hj
  exact ⟨c, fun j e hj => h1 j e (key j e hj), fun j e hj => h2 j e (key j e hj), fun j e hj => h3 j e (key j e hj)⟩

theorem RowOf.drop (hr : RowOf M w sz f es) (n : Nat) (he : ∀ k, g k = f (n * sz + k)) : RowOf M w sz g (es.drop n) := by
  obtain ⟨c, h1, h2, h3⟩ := hr
  have key : ∀ (j : Nat) (e : PV), (es.drop n)[j]? = some e → es[n + j]? = some e := fun j e hj => by
    rwa [List.getElem?_drop] at hj
  refine ⟨fun j => c (n + j), fun j e hj => h1 _ e (key j e hj), fun j e hj i x hx => ?_, fun j e hj => h3 _ e (key j e hj)⟩
  have := h2 _ e (key j e hj) i x hx
  refine ⟨this.1, ?_⟩
  rw [he, ← this.2]
  congr 1
  rw [Nat.add_mul]; omega

theorem RowOf.append (hr : RowOf M w sz f es) (hd : RowOf M w sz g ds) (h1 : ∀ k, k < es.length * sz → h k = f k) (h2 : ∀ k, k < ds.length * sz → h (es.length * sz + k) = g k) : RowOf M w sz h (es ++ ds) := by
  obtain ⟨c, a1, a2, a3⟩ := hr
  obtain ⟨d, b1, b2, b3⟩ := hd
  have key : ∀ (j : Nat) (e : PV), (es ++ ds)[j]? = some e → (j < es.length ∧ es[j]? = some e) ∨ (es.length ≤ j ∧ ds[j - es.length]? = some e) := fun j e hj => by
    rcases Nat.lt_or_ge j es.length with hl | hl
    · rw [List.getElem?_append_left hl] at hj; exact .inl ⟨hl, hj⟩
    · rw [List.getElem?_append_right hl] at hj; exact .inr ⟨hl, hj⟩
  refine ⟨fun j => if j < es.length then c j else d (j - es.length), fun j e hj => ?_, fun j e hj i x hx => ?_, fun j e hj => ?_⟩
  · rcases key j e hj with ⟨hl, hj⟩ | ⟨hl, hj⟩
    · simp only [if_pos hl]; exact a1 j e hj
    · simp only [if_neg (Nat.not_lt.2 hl)]; exact b1 _ e hj
  · rcases key j e hj with ⟨hl, hj⟩ | ⟨hl, hj⟩
    · simp only [if_pos hl] at hx
      have := a2 j e hj i x hx
      refine ⟨this.1, ?_⟩
      rw [h1 _ (idx_lt hl (by rw [← a1 j e hj]; exact aget_lt hx))]
      exact this.2
    · simp only [if_neg (Nat.not_lt.2 hl)] at hx
      have := b2 _ e hj i x hx
      refine ⟨this.1, ?_⟩
      have e1 : j * sz + i = es.length * sz + ((j - es.length) * sz + i) := by
        have : j = es.length + (j - es.length) := by omega
        rw [show j * sz = (es.length + (j - es.length)) * sz by rw [← this], Nat.add_mul]; omega
      rw [e1, h2 _ (idx_lt (get_lt hj) (by rw [← b1 _ e hj]; exact aget_lt hx))]
      exact this.2
  · rcases key j e hj with ⟨hl, hj⟩ | ⟨hl, hj⟩
    · simp only [if_pos hl]; exact a3 j e hj
    · simp only [if_neg (Nat.not_lt.2 hl)]; exact b3 _ e hj

/-- All cells of the row are there, each that of one cell. -/
theorem RowOf.all (hr : RowOf M w sz f es) (k : Nat) (hk : k < es.length * sz) : ∃ x, f k = some x ∧ x.oneCell' = true := by
  obtain ⟨c, h1, h2, h3⟩ := hr
  have hsz : 0 < sz := by
    rcases Nat.eq_zero_or_pos sz with h | h
    · subst h; simp at hk
    · exact h
  have hj : k / sz < es.length := (Nat.div_lt_iff_lt_mul hsz).2 hk
  have he : es[k / sz]? = some es[k / sz] := List.getElem?_eq_getElem hj
  have hi : k % sz < (c (k / sz)).cells.size := by rw [h1 _ _ he]; exact Nat.mod_lt _ hsz
  have := h2 _ _ he (k % sz) _ (Array.getElem?_eq_getElem hi)
  have e : k / sz * sz + k % sz = k := by rw [Nat.mul_comm]; exact Nat.div_add_mod k sz
  rw [e] at this
  exact ⟨_, this.2, this.1⟩

/-- The cells of a row as a list. -/
theorem RowOf.list (hr : RowOf M w sz f es) : ∃ l : List Value, l.length = es.length * sz ∧ (∀ (j : Nat) (u : Value), l[j]? = some u → f j = some u) ∧ ∀ u, u ∈ l → u.oneCell' = true := by
  refine ⟨(List.range (es.length * sz)).map fun k => (f k).getD undef, by simp, fun j u hu => ?_, fun u hu => ?_⟩
  · rw [List.getElem?_map] at hu
    obtain ⟨k, hk, rfl⟩ := Option.map_eq_some_iff.1 hu
    have hk2 := (List.getElem?_eq_some_iff.1 hk)
    obtain ⟨hk3, hk4⟩ := hk2
    simp at hk3 hk4
    subst hk4
    obtain ⟨x, hx, _⟩ := hr.all j hk3
    rw [hx]; rfl
  · obtain ⟨k, hk, rfl⟩ := List.mem_map.1 hu
    obtain ⟨x, hx, h1⟩ := hr.all k (by simpa using hk)
    rw [hx]; exact h1

theorem RowOf.get (hr : RowOf M w sz f es) {j : Nat} {e : PV} (hj : es[j]? = some e) : ∃ c : Value, c.cells.size = sz ∧ (∀ (i : Nat) (x : Value), c.cells[i]? = some x → x.oneCell' = true ∧ f (j * sz + i) = some x) ∧ VP M w c e := by
  obtain ⟨c, h1, h2, h3⟩ := hr
  exact ⟨c j, h1 j e hj, h2 j e hj, h3 j e hj⟩
end row

/-- The cells of a slice. -/
def cellsAt (w : World) (A : Option Addr) (k : Nat) : Option Value :=
  match A with
  | some a => w.cell? (a.add k)
  | none => none

theorem VP.list_row {M : Nat → Prop} {w : World} {v : Value} {sz : Nat} {es : List PV} (h : VP M w v (.list sz es)) :
    ∃ A c, v = .slice A es.length c ∧ es.length ≤ c ∧ RowOf M w sz (cellsAt w A) es ∧ (A = none → c = 0) ∧ ∀ a, A = some a → es ≠ [] → a.spot = none ∧ ¬ M a.block ∧ a.block < w.heap.size := by
  cases h with
  | list0 sz A cap h => exact ⟨A, cap, rfl, Nat.zero_le _, RowOf.nil, h, fun a _ h => absurd rfl h⟩
  | list b off cap sz es c h1 h2 h3 h4 h5 h6 =>
    refine ⟨some ⟨b, off, none⟩, cap, rfl, h3, ⟨c, h4, fun j e he i x hx => ?_, h6⟩, fun h => (by cases h), fun a h _ => by cases h; exact ⟨rfl, h1, h2⟩⟩
    simp only [cellsAt, add_none]
    exact h5 j e he i x hx

theorem VP.of_row {M : Nat → Prop} {w : World} {sz b off cap : Nat} {es : List PV} (h : RowOf M w sz (cellsAt w (some ⟨b, off, none⟩)) es) (h1 : ¬ M b) (h2 : b < w.heap.size) (h3 : es.length ≤ cap) : VP M w (.slice (some ⟨b, off, none⟩) es.length cap) (.list sz es) := by
  obtain ⟨c, a1, a2, a3⟩ := h
  simp only [cellsAt, add_none] at a2
  exact .list b off cap sz es c h1 h2 h3 a1 a2 a3

theorem VP.lent_row {M : Nat → Prop} {w : World} {v : Value} {sz : Nat} {es sp : List PV} (h : VP M w v (.lent sz es sp)) :
    ∃ b off c, v = .slice (some ⟨b, off, none⟩) es.length c ∧ (es ++ sp).length ≤ c ∧ RowOf M w sz (cellsAt w (some ⟨b, off, none⟩)) (es ++ sp) ∧ ¬ M b ∧ b < w.heap.size := by
  cases h with
  | lent b off cap sz es sp c h1 h2 h3 h4 h5 h6 =>
    refine ⟨b, off, cap, rfl, h3, ⟨c, h4, fun j e he i x hx => ?_, h6⟩, h1, h2⟩
    simp only [cellsAt, add_none]
    exact h5 j e he i x hx

theorem VP.of_lent {M : Nat → Prop} {w : World} {sz b off cap : Nat} {es sp : List PV} (h : RowOf M w sz (cellsAt w (some ⟨b, off, none⟩)) (es ++ sp)) (h1 : ¬ M b) (h2 : b < w.heap.size) (h3 : (es ++ sp).length ≤ cap) : VP M w (.slice (some ⟨b, off, none⟩) es.length cap) (.lent sz es sp) := by
  obtain ⟨c, a1, a2, a3⟩ := h
  simp only [cellsAt, add_none] at a2
  exact .lent b off cap sz es sp c h1 h2 h3 a1 a2 a3

/-! ### objects -/

theorem Inv.at_l {μ : List MI} {w : World} {ba lo : List Ob} (h : Inv μ w ba lo) {k : Nat} {o : Ob} (ho : lo[k]? = some o) : ∃ m, Ctx.at ⟨blocks μ, ba.length, μ⟩ (.l k) = some m ∧ ObOk ⟨blocks μ, ba.length, μ⟩ w m o := h.locs k o ho
theorem Inv.at_b {μ : List MI} {w : World} {ba lo : List Ob} (h : Inv μ w ba lo) {i : Nat} {o : Ob} (ho : ba[i]? = some o) : ∃ m, Ctx.at ⟨blocks μ, ba.length, μ⟩ (.b i) = some m ∧ ObOk ⟨blocks μ, ba.length, μ.take ba.length⟩ w m o := by
  obtain ⟨m, h1, h2⟩ := h.bases i o ho
  exact ⟨m, by simp only [Ctx.at]; rw [if_pos (get_lt ho)]; exact h1, h2⟩

theorem take_get {α : Type} {l : List α} {n i : Nat} {x : α} (h : (l.take n)[i]? = some x) : l[i]? = some x := by
  rw [List.getElem?_take] at h
  split at h
  · exact h
  · cases h

theorem Ctx.at_take {M : Nat → Prop} {n : Nat} {μ : List MI} {r : Rf} {m : MI} (h : Ctx.at ⟨M, n, μ.take n⟩ r = some m) : Ctx.at ⟨M, n, μ⟩ r = some m := by
  cases r with
  | l k => exact take_get h
  | b id =>
    simp only [Ctx.at] at h ⊢
    split at h
    · rename_i hl; rw [if_pos hl]; exact take_get h
    · cases h

/-- What holds of the elder ones alone holds of all. -/
theorem VA.of_take {M : Nat → Prop} {n : Nat} {μ : List MI} {w : World} {v : Value} {a : AV} (h : VA ⟨M, n, μ.take n⟩ w v a) : VA ⟨M, n, μ⟩ w v a := by
  generalize hΓ : (⟨M, n, μ.take n⟩ : Ctx) = Γ at h
  induction h with
  | p v e h => subst hΓ; exact .p v e h
  | ref r off b h => subst hΓ; exact .ref r off b (Ctx.at_take h)
  | view0 r g sz n h => subst hΓ; exact .view0 r g sz n (Ctx.at_take h)
  | view r g sz n b len cap h hl hc => subst hΓ; exact .view r g sz n b len cap (Ctx.at_take h) hl hc
  | viewOld v r g sz len b g' n h hg h0 => subst hΓ; exact .viewOld v r g sz len b g' n (Ctx.at_take h) hg h0
  | viewGone v r g sz len h h0 => subst hΓ; exact .viewGone v r g sz len (Ctx.at_take h) h0
  | elt r g sz n b idx off h => subst hΓ; exact .elt r g sz n b idx off (Ctx.at_take h)
  | eltOld v r g sz idx off b g' n h hg h0 => subst hΓ; exact .eltOld v r g sz idx off b g' n (Ctx.at_take h) hg h0
  | eltGone v r g sz idx off h h0 => subst hΓ; exact .eltGone v r g sz idx off (Ctx.at_take h) h0
  | mapr r b h => subst hΓ; exact .mapr r b (Ctx.at_take h)
  | maprGone v r h h0 => subst hΓ; exact .maprGone v r (Ctx.at_take h) h0
  | clos f xs ys as bs h1 h2 _ _ ih1 ih2 => exact .clos f xs ys as bs h1 h2 ih1 ih2
  | agg xs cs h1 _ h3 ih => exact .agg xs cs h1 ih h3
  | tup xs cs h1 _ ih => exact .tup xs cs h1 ih

theorem ObOk.of_take {M : Nat → Prop} {n : Nat} {μ : List MI} {w : World} {m : MI} {o : Ob} (h : ObOk ⟨M, n, μ.take n⟩ w m o) : ObOk ⟨M, n, μ⟩ w m o := by
  cases h with
  | cells b xs t cs h1 h2 h3 => exact .cells b xs t cs h1 h2 fun j x c a b => ⟨(h3 j x c a b).1.of_take, (h3 j x c a b).2⟩
  | buf0 g sz n => exact .buf0 g sz n
  | buf b g n sz xs t es c h1 h2 h3 h4 => exact .buf b g n sz xs t es c h1 h2 h3 h4
  | map b clock xs es h1 h2 h3 => exact .map b clock xs es h1 h2 h3
  | loop l r ks cs st p h1 h2 h0 h3 => exact .loop l r ks cs st p h1 h2 h0 fun j t c a b => (h3 j t c a b).of_take
  | gone => exact .gone

theorem blocks_of_at {M : Nat → Prop} {n : Nat} {μ : List MI} {r : Rf} {m : MI} {b : Nat} (h : Ctx.at ⟨M, n, μ⟩ r = some m) (hb : m.block? = some b) : blocks μ b := by
  cases r with
  | l k => exact ⟨_, m, h, hb⟩
  | b id =>
    simp only [Ctx.at] at h
    split at h
    · exact ⟨_, m, h, hb⟩
    · cases h

/-- An object that lies elsewhere, behind a world's step that leaves its block alone. -/
theorem ObOk.mono {M M' : Nat → Prop} {n : Nat} {μ μ' : List MI} {w w' : World} {m : MI} {o : Ob} (h : ObOk ⟨M, n, μ⟩ w m o) (hs : Stays M w M' w') (ha : Above μ μ') (hb : ∀ b, m.block? = some b → w'.heap[b]? = w.heap[b]?) : ObOk ⟨M', n, μ'⟩ w' m o := by
  cases h with
  | cells b xs t cs h1 h2 h3 => exact .cells b xs t cs ((hb b rfl).trans h1) h2 fun j x c a b => ⟨(h3 j x c a b).1.mono hs ha, (h3 j x c a b).2⟩
  | buf0 g sz n => exact .buf0 g sz n
  | buf b g n sz xs t es c h1 h2 h3 h4 => exact .buf b g n sz xs t es c ((hb b rfl).trans h1) h2 h3 fun j e he => ⟨(h4 j e he).1, (h4 j e he).2.1, (h4 j e he).2.2.mono hs⟩
  | map b clock xs es h1 h2 h3 => exact .map b clock xs es ((hb b rfl).trans h1) h2 fun j x e a c => ⟨(h3 j x e a c).1.mono hs, (h3 j x e a c).2.mono hs⟩
  | loop l r ks cs st p h1 h2 h0 h3 => exact .loop l r ks cs st p ((hb l rfl).trans h1) h2 h0 fun j t c a b => (h3 j t c a b).mono hs ha
  | gone => exact .gone

theorem ObOk.block_lt {Γ : Ctx} {w : World} {m : MI} {o : Ob} (h : ObOk Γ w m o) {b : Nat} (hb : m.block? = some b) : b < w.heap.size := by
  cases h with
  | cells b' xs t cs h1 h2 h3 => cases hb; exact aget_lt h1
  | buf0 => cases hb
  | buf b' g n sz xs t es c h1 h2 h3 h4 => cases hb; exact aget_lt h1
  | map b' clock xs es h1 h2 h3 => cases hb; exact aget_lt h1
  | loop l r ks cs st p h1 => cases hb; exact aget_lt h1
  | gone => cases hb

theorem Inv.ob {μ : List MI} {w : World} {ba lo : List Ob} (h : Inv μ w ba lo) {i : Nat} {m : MI} (hm : μ[i]? = some m) : ∃ o Γ, ObOk Γ w m o ∧ ((i < ba.length ∧ ba[i]? = some o) ∨ (ba.length ≤ i ∧ lo[i - ba.length]? = some o)) := by
  have hi := get_lt hm
  rw [h.len] at hi
  rcases Nat.lt_or_ge i ba.length with hl | hl
  · obtain ⟨m', h1, h2⟩ := h.bases i ba[i] (List.getElem?_eq_getElem hl)
    rw [hm] at h1
    cases h1
    exact ⟨_, _, h2, .inl ⟨hl, List.getElem?_eq_getElem hl⟩⟩
  · have hk : i - ba.length < lo.length := by omega
    obtain ⟨m', h1, h2⟩ := h.locs (i - ba.length) lo[i - ba.length] (List.getElem?_eq_getElem hk)
    rw [show ba.length + (i - ba.length) = i by omega, hm] at h1
    cases h1
    exact ⟨_, _, h2, .inr ⟨hl, List.getElem?_eq_getElem hk⟩⟩

theorem Inv.block_lt {μ : List MI} {w : World} {ba lo : List Ob} (h : Inv μ w ba lo) {b : Nat} (hb : blocks μ b) : b < w.heap.size := by
  obtain ⟨i, m, hm, hmb⟩ := hb
  obtain ⟨o, Γ, ho, _⟩ := h.ob hm
  exact ho.block_lt hmb

/-- A world that differs only by draws and by blocks that nobody knows. -/
theorem Inv.grow {μ : List MI} {w w' : World} {ba lo : List Ob} (h : Inv μ w ba lo) (hle : Le μ w μ w') (hb : ∀ b, b < w.heap.size → w'.heap[b]? = w.heap[b]?) : Inv μ w' ba lo :=
  ⟨h.len, h.apart,
   fun i o ho => by
     obtain ⟨m, h1, h2⟩ := h.bases i o ho
     exact ⟨m, h1, h2.mono hle.stays (.refl _) fun b hmb => hb b (h2.block_lt hmb)⟩,
   fun i o ho => by
     obtain ⟨m, h1, h2⟩ := h.locs i o ho
     exact ⟨m, h1, h2.mono hle.stays (.refl _) fun b hmb => hb b (h2.block_lt hmb)⟩⟩

theorem le_alloc (μ : List MI) {w : World} {ba lo : List Ob} (h : Inv μ w ba lo) (o : Obj) : Le μ w μ (w.alloc o) :=
  ⟨rfl, rfl, rfl, .refl μ, by simp, fun b hb hm => ⟨hm, by rw [heap_alloc_old w o b hb]⟩⟩
theorem le_drew (μ : List MI) (w : World) : Le μ w μ w.drew := ⟨rfl, rfl, rfl, .refl μ, Nat.le_refl _, fun b hb hm => ⟨hm, rfl⟩⟩

/-- A new object. -/
theorem Inv.push {μ : List MI} {w w' : World} {ba lo : List Ob} (h : Inv μ w ba lo) (m : MI) (o : Ob) (hn : ∀ b, m.block? = some b → w.heap.size ≤ b)
    (hos : w'.os = w.os) (htp : w'.tape = w.tape) (hou : w'.output = w.output) (hsz : w.heap.size ≤ w'.heap.size) (hb : ∀ b, b < w.heap.size → w'.heap[b]? = w.heap[b]?) (ho : Le μ w (μ ++ [m]) w' → ObOk ⟨blocks (μ ++ [m]), ba.length, μ ++ [m]⟩ w' m o) :
    Inv (μ ++ [m]) w' ba (lo ++ [o]) ∧ Le μ w (μ ++ [m]) w' ∧ Ctx.at ⟨blocks (μ ++ [m]), ba.length, μ ++ [m]⟩ (.l lo.length) = some m := by
  have hblk : ∀ b, blocks (μ ++ [m]) b → blocks μ b ∨ m.block? = some b := by
    rintro b ⟨i, m', hm', hmb⟩
    rcases Nat.lt_or_ge i μ.length with hl | hl
    · rw [List.getElem?_append_left hl] at hm'; exact .inl ⟨i, m', hm', hmb⟩
    · rw [List.getElem?_append_right hl] at hm'
      have : i - μ.length = 0 := by have := get_lt hm'; simp at this; omega
      rw [this] at hm'
      simp at hm'
      subst hm'
      exact .inr hmb
  have habv : Above μ (μ ++ [m]) := fun i m' hm' => ⟨m', by rw [List.getElem?_append_left (get_lt hm')]; exact hm', .refl _⟩
  have hst : Stays (blocks μ) w (blocks (μ ++ [m])) w' := ⟨hsz, fun b hlt hmb => ⟨fun hc => by
    rcases hblk b hc with h1 | h1
    · exact hmb h1
    · have := hn b h1; omega, hb b hlt⟩⟩
  have hle : Le μ w (μ ++ [m]) w' := ⟨hos, htp, hou, habv, hst⟩
  have hlen : μ.length = ba.length + lo.length := h.len
  have hat : (μ ++ [m])[ba.length + lo.length]? = some m := by rw [← hlen]; simp
  refine ⟨⟨by simp [hlen]; omega, fun i j m1 m2 b h1 h2 hb1 hb2 => ?_, fun i o' ho' => ?_, fun k o' ho' => ?_⟩, hle, hat⟩
  · have split : ∀ (i : Nat) (m1 : MI), (μ ++ [m])[i]? = some m1 → μ[i]? = some m1 ∨ (i = μ.length ∧ m1 = m) := fun i m1 h1 => by
      rcases Nat.lt_or_ge i μ.length with hl | hl
      · rw [List.getElem?_append_left hl] at h1; exact .inl h1
      · rw [List.getElem?_append_right hl] at h1
        have : i - μ.length = 0 := by have := get_lt h1; simp at this; omega
        rw [this] at h1
        simp at h1
        exact .inr ⟨by omega, h1.symm⟩
    rcases split i m1 h1 with k1 | ⟨k1, e1⟩ <;> rcases split j m2 h2 with k2 | ⟨k2, e2⟩
    · exact h.apart i j m1 m2 b k1 k2 hb1 hb2
    · have := h.block_lt ⟨i, m1, k1, hb1⟩
      have := hn b (e2 ▸ hb2)
      omega
    · have := h.block_lt ⟨j, m2, k2, hb2⟩
      have := hn b (e1 ▸ hb1)
      omega
    · omega
  · obtain ⟨m', h1, h2⟩ := h.bases i o' ho'
    have hi := get_lt ho'
    refine ⟨m', by rw [List.getElem?_append_left (get_lt h1)]; exact h1, ?_⟩
    have e : (μ ++ [m]).take ba.length = μ.take ba.length := by rw [List.take_append_of_le_length (by omega)]
    rw [e]
    exact h2.mono hst (.refl _) fun b hmb => hb b (h2.block_lt hmb)
  · rcases Nat.lt_or_ge k lo.length with hl | hl
    · rw [List.getElem?_append_left hl] at ho'
      obtain ⟨m', h1, h2⟩ := h.locs k o' ho'
      exact ⟨m', by rw [List.getElem?_append_left (get_lt h1)]; exact h1, h2.mono hst habv fun b hmb => hb b (h2.block_lt hmb)⟩
    · rw [List.getElem?_append_right hl] at ho'
      have : k - lo.length = 0 := by have := get_lt ho'; simp at this; omega
      rw [this] at ho'
      simp at ho'
      subst ho'
      exact ⟨m, by rw [show k = lo.length by omega]; exact hat, ho hle⟩

end Go.Proofs.Ytkjidklifmcpnaa.AD
