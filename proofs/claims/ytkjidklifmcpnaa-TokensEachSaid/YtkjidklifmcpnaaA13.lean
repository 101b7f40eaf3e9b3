/- A plainer machine, thirteen: append. -/
import Derived.Test.YtkjidklifmcpnaaA12
namespace Go.Proofs.Ytkjidklifmcpnaa.AD
set_option linter.unusedVariables false
set_option linter.unusedSimpArgs false

section ops
variable {P : Program} {o : Oper} {fr : FR} {ba lo : List Ob} {K : AV → List Ob → List Ob → Prop} {d : Bool}

/-- What is appended: so many elements, as cells, whatever the world has drawn. -/
structure SrcV (P : Program) (tx : TypeId) (size n : Nat) (news : List Value) (x : Value) (w : World) : Prop where
  kind : P.underlying tx = some .string ∨ ∃ e, P.underlying tx = some (.slice e)
  len : ∀ w, (Builtin.lenOf x).run P w = .ok n w
  cells : (Builtin.firstCells size n x).run P w = .ok news.toArray w
  cells' : (Builtin.firstCells size n x).run P w.drew = .ok news.toArray w.drew

theorem run_app_room {t tx ty e : TypeId} {i : TypeInfo} (ht : P.underlying t = some (.slice e)) (hi : P.info? e = some i) {w w' : World} {base : Option Addr} {sLen sCap n : Nat} {news : List Value} {x : Value} (hs : SrcV P tx i.size n news x w) (hroom : sLen + n ≤ sCap)
    (hst : match base with | some a => (storeCells (a.add (sLen * i.size)) news).run P w = .ok () w' | none => w' = w) : (Builtin.append_ #[t, tx] ty #[.slice base sLen sCap, x]).run P w = .ok (.slice base (sLen + n) sCap) w' := by
  have h1 := hs.cells
  have h2 := hs.len w
  rcases hs.kind with hk | ⟨e', hk⟩ <;> cases base with
  | none => subst hst; simp [Builtin.append_, run_underlying ht, run_underlying hk, sizeOf, typeInfo, hi, h2, h1, hroom]
  | some a => simp [Builtin.append_, run_underlying ht, run_underlying hk, sizeOf, typeInfo, hi, h2, h1, hroom, hst]

theorem run_app_grow {t tx ty e : TypeId} {i : TypeInfo} {z : Value} (ht : P.underlying t = some (.slice e)) (hi : P.info? e = some i) (hz : i.zero = some z) {w : World} {base : Option Addr} {sLen sCap n : Nat} {olds news : List Value} {x : Value} (hs : SrcV P tx i.size n news x w) (hroom : ¬ sLen + n ≤ sCap)
    (hold : (Builtin.firstCells i.size sLen (.slice base sLen sCap)).run P w.drew = .ok olds.toArray w.drew) (hb0 : 0 < i.bytes) (hfit : (sLen + n) * i.bytes ≤ 140737488355328) :
    (Builtin.append_ #[t, tx] ty #[.slice base sLen sCap, x]).run P w = .ok (.slice (some ⟨w.heap.size, 0, none⟩) (sLen + n) (grownCap w (sLen + n) sCap e))
      (w.drew.alloc (.cells (olds.toArray ++ news.toArray ++ Builtin.zeroCells z.cells (grownCap w (sLen + n) sCap e - (sLen + n))) e)) := by
  have h1 := hs.cells'
  have h2 := hs.len w
  have hlt : sCap < sLen + n := by omega
  have h48 : ¬ (281474976710656 < Builtin.nextslicecap (sLen + n) sCap * i.bytes) := by have := growslice_fits hlt hfit; omega
  have h48' : ¬ (Builtin.nextslicecap (sLen + n) sCap * i.bytes > 2 ^ 48) := by have := growslice_fits hlt hfit; omega
  have h63 : ¬ (((sLen + n : Nat) : Int) > IntKind.i64.max ∧ (false = true ∨ i.bytes = 0)) := by rintro ⟨_, h | h⟩ <;> first | cases h | omega
  have hb1 : ¬ i.bytes = 0 := by omega
  rcases hs.kind with hk | ⟨e', hk⟩ <;> simp [Builtin.append_, run_underlying ht, run_underlying hk, sizeOf, typeInfo, zeroValue, hi, hz, h2, hroom, Question.forced, h1, hold, newRow, grownCap, h48, hb1] <;> (congr 2; apply Array.ext'; simp [List.append_assoc])

/-- A row laid anew behind an append that grows. -/
theorem grown_row {M : Nat → Prop} {w : World} {sz cap : Nat} {es ys : List PV} {olds news : List Value} {z : Array Value} (ho : olds.length = es.length * sz) (hn : news.length = ys.length * sz) (hr : RowOf M w sz (fun k => olds[k]?) es) (hy : RowOf M w sz (fun k => news[k]?) ys) (hz : z.size = sz) (hc : es.length + ys.length ≤ cap) :
    (olds.toArray ++ news.toArray ++ Builtin.zeroCells z (cap - (es.length + ys.length))).size = cap * sz ∧ RowOf M w sz (fun k => (olds.toArray ++ news.toArray ++ Builtin.zeroCells z (cap - (es.length + ys.length)))[k]?) (es ++ ys) := by
  refine ⟨?_, hr.append hy (fun k hk => ?_) fun k hk => ?_⟩
  · simp only [Array.size_append, List.size_toArray, size_zeroCells, ho, hn, hz]
    rw [← Nat.add_mul, ← Nat.add_mul]
    congr 1
    omega
  · rw [Array.getElem?_append_left (by simp; omega), Array.getElem?_append_left (by simp; omega)]
    simp
  · rw [Array.getElem?_append_left (by simp; omega), Array.getElem?_append_right (by simp; omega)]
    simp [ho]

theorem le_cap (w : World) (need old : Nat) (e : TypeId) : need ≤ grownCap w need old e := by unfold grownCap Question.cut; simp

theorem first_row {w : World} {sz b n : Nat} {es : List PV} {M : Nat → Prop} {xs : Array Value} {ty : TypeId} (hb : w.heap[b]? = some (.cells xs ty (0, 0))) (hr : RowOf M w sz (fun k => xs[k]?) es) (len cap : Nat) :
    ∃ olds : List Value, olds.length = es.length * sz ∧ (∀ (j : Nat) (u : Value), olds[j]? = some u → xs[j]? = some u) ∧ (∀ u, u ∈ olds → u.oneCell' = true) ∧ (Builtin.firstCells sz es.length (.slice (some ⟨b, 0, none⟩) len cap)).run P w = .ok olds.toArray w ∧ (Builtin.firstCells sz es.length (.slice (some ⟨b, 0, none⟩) len cap)).run P w.drew = .ok olds.toArray w.drew := by
  obtain ⟨olds, h1, h2, h3⟩ := hr.list
  refine ⟨olds, h1, h2, h3, ?_, ?_⟩
  · exact run_firstCells_some w sz es.length _ len cap olds h1 fun j v hj => by rw [add_none, Nat.zero_add, cell_of_row w b j xs ty (0, 0) hb]; exact h2 j v hj
  · exact run_firstCells_some w.drew sz es.length _ len cap olds h1 fun j v hj => by rw [add_none, Nat.zero_add, World.cell?_drew, cell_of_row w b j xs ty (0, 0) hb]; exact h2 j v hj

/-- The same row, said of its list. -/
theorem row_list {M : Nat → Prop} {w : World} {sz : Nat} {f : Nat → Option Value} {es : List PV} {l : List Value} (hr : RowOf M w sz f es) (hl : l.length = es.length * sz) (h : ∀ (j : Nat) (u : Value), l[j]? = some u → f j = some u) : RowOf M w sz (fun k => l[k]?) es :=
  hr.congr fun k hk => by
    have h1 : l[k]? = some l[k] := List.getElem?_eq_getElem (by omega)
    rw [h1, h k _ h1]

theorem appK_out {sz bytes : Nat} {x : AV} {ys : List PV} {t tx ty e : TypeId} {i : TypeInfo} {z : Value} (ht : P.underlying t = some (.slice e)) (hi : P.info? e = some i) (hz : i.zero = some z) (hsz : i.size = sz) (hby : i.bytes = bytes) (hzs : z.cells.size = sz) (h0 : 0 < bytes)
    (h : appK sz bytes x ys ba lo K) : ∃ v ba' lo', K v ba' lo' ∧ ∀ (μ : List MI) (w : World) (xv yv : Value) (news : List Value), Inv μ w ba lo → VA ⟨blocks μ, ba.length, μ⟩ w xv x → SrcV P tx sz ys.length news yv w → news.length = ys.length * sz → RowOf (blocks μ) w sz (fun k => news[k]?) ys → (∀ u, u ∈ news → u.oneCell' = true) →
      ∃ c w' μ', (Builtin.append_ #[t, tx] ty #[xv, yv]).run P w = .ok c w' ∧ VA ⟨blocks μ', ba.length, μ'⟩ w' c v ∧ Inv μ' w' ba' lo' ∧ Le μ w μ' w' ∧ ba'.length = ba.length := by
  subst hsz; subst hby
  unfold appK at h
  -- a row laid anew
  have fresh : ∀ (μ : List MI) (w : World) (C : Array Value), Inv μ w ba lo → Le μ w μ (w.drew.alloc (.cells C e)) := fun μ w C hinv => (le_drew μ w).trans (le_alloc μ (hinv.grow (le_drew μ w) fun b hb => rfl) _)
  have hroomB : ∀ n, room n i.bytes → n * i.bytes ≤ 140737488355328 := fun n hn => by unfold room at hn; omega
  -- onto an object: i0 its number
  have onto : ∀ (g len : Nat) (es : List PV), len ≤ es.length → room (len + ys.length) i.bytes → ∀ (μ : List MI) (w : World) (xv yv : Value) (news : List Value) (r : Rf) (i0 : Nat) (mi : MI), Inv μ w ba lo → μ[i0]? = some mi → Ctx.at ⟨blocks μ, ba.length, μ⟩ r = some mi → (∀ (M : Nat → Prop) (μ' : List MI), Ctx.at ⟨M, ba.length, μ'⟩ r = μ'[i0]?) → ObOk ⟨blocks μ, ba.length, μ⟩ w mi (.buf g i.size es) → VA ⟨blocks μ, ba.length, μ⟩ w xv (.view r g i.size len) → SrcV P tx i.size ys.length news yv w → news.length = ys.length * i.size → RowOf (blocks μ) w i.size (fun k => news[k]?) ys → (∀ u, u ∈ news → u.oneCell' = true) →
      ∃ c w' mi', (Builtin.append_ #[t, tx] ty #[xv, yv]).run P w = .ok c w' ∧ MI.le mi mi' ∧ (∀ b, mi'.block? = some b → mi.block? = some b ∨ w.heap.size ≤ b) ∧ w'.os = w.os ∧ w'.tape = w.tape ∧ w'.output = w.output ∧ w.heap.size ≤ w'.heap.size ∧ (∀ b, b < w.heap.size → mi.block? ≠ some b → w'.heap[b]? = w.heap[b]?) ∧
        (∀ (M : Nat → Prop) (μ' : List MI), μ'[i0]? = some mi' → VA ⟨M, ba.length, μ'⟩ w' c (.view r (g + 1) i.size (len + ys.length))) ∧ ∀ (Γ : Ctx), Stays (blocks μ) w Γ.M w' → ObOk Γ w' mi' (.buf (g + 1) i.size (es.take len ++ ys)) := by
    intro g len es hlen hroom μ w xv yv news r i0 mi hinv hmi hat hatr hob hx hs hn hy h1
    have hlt : (es.take len).length = len := by rw [List.length_take]; omega
    rcases hob.row with ⟨n', rfl, rfl⟩ | ⟨b, xs, ty', rfl, hb, hle, hr⟩
    · -- nothing yet
      obtain ⟨_, rfl, rfl⟩ | ⟨b', cap, e', _⟩ := view_inv hx hat
      case inr => cases e'
      by_cases hy0 : ys.length ≤ 0
      · have ey : ys = [] := List.length_eq_zero_iff.1 (by omega)
        subst ey
        have hrun := run_app_room (P := P) (t := t) (ty := ty) (w' := w) ht hi (base := none) (sLen := 0) (sCap := 0) hs (by simp) rfl
        refine ⟨_, w, .buf none (g + 1) n', hrun, .buf _ _ _ _ _ _ (Nat.lt_succ_self _), fun b hb => (by cases hb), rfl, rfl, rfl, Nat.le_refl _, fun b _ _ => rfl, fun M μ' hμ => ?_, fun Γ _ => ?_⟩
        · exact .view0 r (g + 1) i.size n' (by rw [hatr]; exact hμ)
        · simpa using ObOk.buf0 (Γ := Γ) (w := w) (g + 1) i.size n'
      · have hold : (Builtin.firstCells i.size 0 (.slice none 0 0)).run P w.drew = .ok (([] : List Value).toArray) w.drew := by simp [Builtin.firstCells]
        have hrun := run_app_grow (P := P) (t := t) (ty := ty) ht hi hz (base := none) (sLen := 0) (sCap := 0) (olds := []) hs (by omega) hold h0 (hroomB _ hroom)
        have hcap := le_cap w (0 + ys.length) 0 e
        generalize grownCap w (0 + ys.length) 0 e = cap at hrun hcap
        obtain ⟨q1, q2⟩ := grown_row (M := blocks μ) (w := w) (sz := i.size) (es := []) (olds := []) (z := z.cells) (cap := cap) (by simp) hn RowOf.nil hy hzs (by simpa using hcap)
        simp only [List.length_nil] at q1 q2
        generalize hC : (([] : List Value).toArray ++ news.toArray ++ Builtin.zeroCells z.cells (cap - (0 + ys.length))) = C at hrun q1 q2
        have hnew := heap_alloc_new w.drew (.cells C e)
        refine ⟨_, _, .buf (some w.heap.size) (g + 1) C.size, hrun, .buf _ _ _ _ _ _ (Nat.lt_succ_self _), fun b hb => .inr (by cases hb; exact Nat.le_refl _), rfl, rfl, rfl, by simp, fun b hb _ => heap_alloc_old w.drew _ b hb, fun M μ' hμ => ?_, fun Γ hs => ?_⟩
        · exact .view r (g + 1) i.size C.size w.heap.size _ cap (by rw [hatr]; exact hμ) (by omega) q1.symm
        · simp only [List.take_nil, List.nil_append] at q2 ⊢
          exact ObOk.of_row hnew (by rw [q1]; exact Nat.mul_le_mul_right _ (by omega)) (q2.mono hs)
    · obtain ⟨e', _, _⟩ | ⟨b', cap, e', rfl, hlc, hcs⟩ := view_inv hx hat
      case inl => cases e'
      cases e'
      have hrt := hr.take len
      obtain ⟨olds, o1, o2, o3, o4, o5⟩ := first_row (P := P) (n := 0) hb hrt len cap
      rw [hlt] at o1 o4 o5
      by_cases hrm : len + ys.length ≤ cap
      · -- there is room
        have hfit : len * i.size + news.length ≤ xs.size := by
          rw [hn, ← Nat.add_mul, ← hcs]; exact Nat.mul_le_mul_right _ hrm
        have hst := run_storeCells_at P b (len * i.size) ty' news 0 xs w hb (by simpa using hfit) h1
        simp only [Nat.add_zero] at hst
        have hrun := run_app_room (P := P) (t := t) (ty := ty) ht hi (base := some ⟨b, 0, none⟩) (sLen := len) (sCap := cap) (w' := w.setRow b (xs.toList.take (len * i.size) ++ news ++ xs.toList.drop (len * i.size + news.length)).toArray) hs hrm (by show (storeCells ((⟨b, 0, none⟩ : Addr).add (len * i.size)) news).run P w = _; rw [add_none, Nat.zero_add]; exact hst)
        have f1 : len * i.size + news.length ≤ xs.toList.length := by rw [Array.length_toList (xs := xs)]; exact hfit
        have hsz2 : (xs.toList.take (len * i.size) ++ news ++ xs.toList.drop (len * i.size + news.length)).toArray.size = xs.size := by rw [List.size_toArray, splice_len f1, Array.length_toList]
        refine ⟨_, _, .buf (some b) (g + 1) xs.size, hrun, .buf _ _ _ _ _ _ (Nat.lt_succ_self _), fun b' hb' => .inl hb', rfl, rfl, rfl, by simp, fun b' hb' hne => setRow_other w b b' _ (fun e => hne (by rw [e]; rfl)), fun M μ' hμ => ?_, fun Γ hs => ?_⟩
        · exact .view r (g + 1) i.size xs.size b _ cap (by rw [hatr]; exact hμ) hrm hcs
        · have hrow : RowOf Γ.M (w.setRow b (xs.toList.take (len * i.size) ++ news ++ xs.toList.drop (len * i.size + news.length)).toArray) i.size (fun k => (xs.toList.take (len * i.size) ++ news ++ xs.toList.drop (len * i.size + news.length)).toArray[k]?) (es.take len ++ ys) := by
            refine (hrt.mono hs).append (hy.mono hs) (fun k hk => ?_) fun k hk => ?_
            · rw [hlt] at hk
              rw [arr_splice_get f1, if_neg (by omega)]; simp
            · rw [hlt, arr_splice_get f1, if_pos (by omega), show len * i.size + k - len * i.size = k by omega]
          have := ObOk.of_row (Γ := Γ) (g := g + 1) (setRow_heap w b xs (xs.toList.take (len * i.size) ++ news ++ xs.toList.drop (len * i.size + news.length)).toArray ty' (0, 0) hb) (by rw [hsz2, List.length_append, hlt, ← hcs]; exact Nat.mul_le_mul_right _ hrm) hrow
          rw [hsz2] at this
          exact this
      · have hrun := run_app_grow (P := P) (t := t) (ty := ty) ht hi hz (base := some ⟨b, 0, none⟩) (sLen := len) (sCap := cap) (olds := olds) hs hrm o5 h0 (hroomB _ hroom)
        have hcap := le_cap w (len + ys.length) cap e
        generalize grownCap w (len + ys.length) cap e = cap2 at hrun hcap
        obtain ⟨q1, q2⟩ := grown_row (M := blocks μ) (w := w) (sz := i.size) (es := es.take len) (olds := olds) (z := z.cells) (cap := cap2) (by rw [hlt]; exact o1) hn (row_list hrt (by rw [hlt]; exact o1) o2) hy hzs (by rw [hlt]; exact hcap)
        rw [hlt] at q1 q2
        generalize hC : (olds.toArray ++ news.toArray ++ Builtin.zeroCells z.cells (cap2 - (len + ys.length))) = C at hrun q1 q2
        have hnew := heap_alloc_new w.drew (.cells C e)
        refine ⟨_, _, .buf (some w.heap.size) (g + 1) C.size, hrun, .buf _ _ _ _ _ _ (Nat.lt_succ_self _), fun b hb => .inr (by cases hb; exact Nat.le_refl _), rfl, rfl, rfl, by simp, fun b hb _ => heap_alloc_old w.drew _ b hb, fun M μ' hμ => ?_, fun Γ hs => ?_⟩
        · exact .view r (g + 1) i.size C.size w.heap.size _ cap2 (by rw [hatr]; exact hμ) (by omega) q1.symm
        · exact ObOk.of_row hnew (by rw [q1, List.length_append, hlt]; exact Nat.mul_le_mul_right _ (by omega)) (q2.mono hs)
  split at h
  · -- nil
    obtain ⟨hroom, h⟩ := h
    rw [pushK_eq] at h
    refine ⟨_, _, _, h, fun μ w xv yv news hinv hx hs hn hy h1 => ?_⟩
    have hx := hx.pv
    cases hx
    by_cases hy0 : ys.length ≤ 0
    · have ey : ys = [] := List.length_eq_zero_iff.1 (by omega)
      subst ey
      have hrun := run_app_room (P := P) (t := t) (ty := ty) (w' := w) ht hi (base := none) (sLen := 0) (sCap := 0) hs (by simp) rfl
      obtain ⟨p1, p2, p3⟩ := hinv.push (w' := w) (.buf none 0 0) (.buf 0 i.size []) (fun b hb => by cases hb) rfl rfl rfl (Nat.le_refl _) (fun b hb => rfl) fun hle => .buf0 _ _ _
      exact ⟨_, w, _, hrun, .view0 _ 0 i.size 0 p3, p1, p2, rfl⟩
    · have hold : (Builtin.firstCells i.size 0 (.slice none 0 0)).run P w.drew = .ok (([] : List Value).toArray) w.drew := by simp [Builtin.firstCells]
      have hrun := run_app_grow (P := P) (t := t) (ty := ty) ht hi hz (base := none) (sLen := 0) (sCap := 0) (olds := []) hs (by omega) hold h0 (by rw [Nat.zero_add]; exact hroomB _ hroom)
      have hcap := le_cap w (0 + ys.length) 0 e
      generalize grownCap w (0 + ys.length) 0 e = cap at hrun hcap
      obtain ⟨q1, q2⟩ := grown_row (M := blocks μ) (w := w) (sz := i.size) (es := []) (olds := []) (z := z.cells) (cap := cap) (by simp) hn RowOf.nil hy hzs (by simpa using hcap)
      simp only [List.length_nil] at q1 q2
      generalize hC : (([] : List Value).toArray ++ news.toArray ++ Builtin.zeroCells z.cells (cap - (0 + ys.length))) = C at hrun q1 q2
      have hnew := heap_alloc_new w.drew (.cells C e)
      obtain ⟨p1, p2, p3⟩ := hinv.push (w' := w.drew.alloc (.cells C e)) (.buf (some w.heap.size) 0 C.size) (.buf 0 i.size ys) (fun b hb => by cases hb; exact Nat.le_refl _) rfl rfl rfl (by simp) (fun b hb => heap_alloc_old w.drew _ b hb) fun hle =>
        ObOk.of_row hnew (by rw [q1]; exact Nat.mul_le_mul_right _ (by omega)) (by simpa using q2.mono hle.stays)
      rw [Nat.zero_add] at hrun
      exact ⟨_, _, _, hrun, .view _ 0 i.size C.size w.heap.size _ cap p3 (by omega) q1.symm, p1, p2, rfl⟩
  · rename_i m g sz' len
    obtain ⟨o', ho', h⟩ := atK_out _ _ _ h
    split at h
    · rename_i g' sz'' es
      obtain ⟨⟨e1, e2, e3, hlen⟩, hroom, zs, ez, h⟩ := h
      obtain ⟨hml, h⟩ := setAtK_out _ _ _ _ h
      subst e1; subst e2; subst e3; subst ez
      refine ⟨_, _, _, h, fun μ w xv yv news hinv hx hs hn hy h1 => ?_⟩
      obtain ⟨mi, g1, g2⟩ := hinv.at_l ho'
      obtain ⟨c, w', mi', k1, k2, k3, k4, k5, k6, k7, k8, k9, k10⟩ := onto g len es hlen hroom μ w xv yv news (.l m) (ba.length + m) mi hinv g1 g1 (fun _ _ => rfl) g2 hx hs hn hy h1
      have hmi : μ[ba.length + m]? = some mi := g1
      obtain ⟨r1, r2⟩ := hinv.change (i := ba.length + m) (w' := w') (ba' := ba) (lo' := lo.set m (.buf (g + 1) i.size (es.take len ++ ys))) hmi k2 k3 k4 k5 k6 k7 k8 rfl (by simp) (fun j hj => rfl)
        (fun k hk => by rw [List.getElem?_set_ne (by omega)]) (fun hle o' hlt => by omega) (fun hle k o' hk ho' => by
          have hk' : k = m := by omega
          subst hk'
          rw [List.getElem?_set, if_pos rfl, if_pos hml] at ho'
          cases ho'
          exact k10 _ hle.stays)
      refine ⟨c, w', _, k1, k9 _ _ ?_, r1, r2, rfl⟩
      rw [List.getElem?_set, if_pos rfl, if_pos (get_lt g1)]
    · exact h.elim
  · rename_i id g sz' len
    obtain ⟨ob, ho', h⟩ := atK_out _ _ _ h
    cases ob <;> first | exact (show False from h).elim | skip
    rename_i g' sz'' es
    obtain ⟨⟨e1, e2, e3, hlen⟩, hroom, zs, ez, h⟩ := h
    subst e1; subst e2; subst e3; subst ez
    obtain ⟨_, h⟩ := setAtK_out _ _ _ _ h
    refine ⟨_, _, _, h, fun μ w xv yv news hinv hx hs hn hy h1 => ?_⟩
    obtain ⟨mi, g1, g2⟩ := hinv.at_b ho'
    have hidl := get_lt ho'
    have hmi : μ[id]? = some mi := by
      have g3 := g1
      simp only [Ctx.at] at g3
      rw [if_pos hidl] at g3
      exact g3
    obtain ⟨c, w', mi', k1, k2, k3, k4, k5, k6, k7, k8, k9, k10⟩ := onto g len es hlen hroom μ w xv yv news (.b id) id mi hinv hmi g1 (fun M μ' => by simp only [Ctx.at]; rw [if_pos hidl]) g2.of_take hx hs hn hy h1
    obtain ⟨r1, r2⟩ := hinv.change (w' := w') (ba' := ba.set id (.buf (g + 1) i.size (es.take len ++ ys))) (lo' := lo) hmi k2 k3 k4 k5 k6 k7 k8 (by simp) rfl (fun j hj => by rw [List.getElem?_set_ne (fun e => hj e.symm)])
      (fun k hk => rfl) (fun hle o' hlt ho' => by
        rw [List.getElem?_set, if_pos rfl, if_pos hidl] at ho'
        cases ho'
        exact k10 _ hle.stays) (fun hle k o' hk => by omega)
    refine ⟨c, w', _, k1, k9 _ _ ?_, r1, r2, by simp⟩
    rw [List.getElem?_set, if_pos rfl, if_pos (get_lt hmi)]
  · exact h.elim

theorem s_app {t tx e : TypeId} {x y : Operand} {rx ry : Rv} {i : TypeInfo} {z : Value} (ho : o.op = .call { callee := .builtin .append, args := #[x, y], argTypes := #[t, tx] }) (ht : P.underlying t = some (.slice e)) (hi : P.info? e = some i) (hz : i.zero = some z) (hzs : z.cells.size = i.size) (h0 : 0 < i.bytes)
    {e' : TypeId} (htx : P.underlying tx = some (.slice e')) (hx : rv x = some rx) (hy : rv y = some ry) (h : opV P d (.app i.size i.bytes rx ry) fr ba lo K) : Sound1 P o fr ba lo K := by
  have hm : x ∈ o.op.operands.toList := by simp [ho, Op.operands, Call.operands]
  have hmy : y ∈ o.op.operands.toList := by simp [ho, Op.operands, Call.operands]
  simp only [opV, evK_eq] at h
  obtain ⟨ys, h, hc⟩ := contK_out (P := P) h
  obtain ⟨v, ba', lo', hk, hs⟩ := appK_out (P := P) (tx := tx) (ty := o.type) ht hi hz rfl rfl hzs h0 h
  refine ⟨v, ba', lo', hk, fun μ w a hinv hp => ?_⟩
  obtain ⟨A, c, h1, h2, h3, h4⟩ := hc μ w _ hinv (hp.get hmy hy rfl)
  obtain ⟨news, n1, n2, n3⟩ := h2.list
  have hfc : ∀ w', (∀ k, w'.cell? k = w.cell? k) → (Builtin.firstCells i.size ys.length (a.eval y)).run P w' = .ok news.toArray w' := fun w' hw => by
    rw [h1]
    cases A with
    | none =>
      have := h3 rfl
      subst this
      have : news = [] := List.length_eq_zero_iff.1 (by simpa using n1)
      subst this
      simp [Builtin.firstCells]
    | some ad => exact run_firstCells_some w' i.size ys.length ad ys.length c news n1 fun j u hj => by rw [hw]; exact n2 j u hj
  obtain ⟨cv, w', μ', g1, g2, g3, g4, g5⟩ := hs μ w (a.eval x) (a.eval y) news hinv (hp.get hm hx rfl) ⟨.inr ⟨e', htx⟩, fun w => by rw [h1]; rfl, hfc w fun _ => rfl, hfc w.drew fun _ => rfl⟩ n1 (row_list h2 n1 n2) n3
  exact ⟨cv, w', μ', .inl (by simp [execOp, ho, resolve, invoke, builtin, g1]), g2, g3, g4, g5⟩

theorem s_appS {t tx e : TypeId} {x y : Operand} {rx ry : Rv} {i : TypeInfo} {z : Value} (ho : o.op = .call { callee := .builtin .append, args := #[x, y], argTypes := #[t, tx] }) (ht : P.underlying t = some (.slice e)) (hi : P.info? e = some i) (hz : i.zero = some z) (hzs : z.cells.size = i.size) (h1 : i.size = 1) (h2 : i.bytes = 1)
    (htx : P.underlying tx = some .string) (hx : rv x = some rx) (hy : rv y = some ry) (h : opV P d (.appS rx ry) fr ba lo K) : Sound1 P o fr ba lo K := by
  have hm : x ∈ o.op.operands.toList := by simp [ho, Op.operands, Call.operands]
  have hmy : y ∈ o.op.operands.toList := by simp [ho, Op.operands, Call.operands]
  simp only [opV, evK_eq] at h
  split at h
  · rename_i s e1
    obtain ⟨v, ba', lo', hk, hs⟩ := appK_out (P := P) (tx := tx) (ty := o.type) ht hi hz h1 h2 (by rw [hzs, h1]) (by decide) h
    refine ⟨v, ba', lo', hk, fun μ w a hinv hp => ?_⟩
    have hys := (hp.get hmy hy e1).str_inv
    have hb : ∀ j (u : Value), (s.data.toList.map fun (b : UInt8) => Value.int .u8 (b.toNat : Int))[j]? = some u → ∃ b : UInt8, s.data.toList[j]? = some b ∧ u = .int .u8 b.toNat := fun j u hu => by
      rw [List.getElem?_map] at hu
      obtain ⟨b, h3, h4⟩ := Option.map_eq_some_iff.1 hu
      exact ⟨b, h3, h4.symm⟩
    have hfc : ∀ w', (Builtin.firstCells 1 (byteInts s).length (a.eval y)).run P w' = .ok (s.data.toList.map fun (b : UInt8) => Value.int .u8 (b.toNat : Int)).toArray w' := fun w' => by
      rw [hys, byteInts_length]
      simp only [Builtin.firstCells, Sem.run_pure]
      congr 1
      apply Array.ext'
      simp
    obtain ⟨cv, w', μ', g1, g2, g3, g4, g5⟩ := hs μ w (a.eval x) (a.eval y) (s.data.toList.map fun (b : UInt8) => Value.int .u8 (b.toNat : Int)) hinv (hp.get hm hx rfl) ⟨.inl htx, fun w => by rw [hys, byteInts_length]; rfl, hfc w, hfc w.drew⟩ (by rw [byteInts_length]; simp)
      ⟨fun j => ((s.data.toList.map fun (b : UInt8) => Value.int .u8 (b.toNat : Int))[j]?).getD undef, fun j e he => by
          simp only [byteInts, List.getElem?_map] at he ⊢
          obtain ⟨b, h3, rfl⟩ := Option.map_eq_some_iff.1 he
          rw [h3]; rfl, fun j e he k u hu => by
          simp only [byteInts, List.getElem?_map] at he hu ⊢
          obtain ⟨b, h3, rfl⟩ := Option.map_eq_some_iff.1 he
          rw [h3] at hu
          cases k with
          | zero =>
            simp [Value.cells] at hu
            subst hu
            refine ⟨rfl, ?_⟩
            rw [Nat.mul_one, Nat.add_zero, h3]; rfl
          | succ k => simp [Value.cells] at hu, fun j e he => by
          simp only [byteInts, List.getElem?_map] at he ⊢
          obtain ⟨b, h3, rfl⟩ := Option.map_eq_some_iff.1 he
          rw [h3]; exact .int _ _⟩ (fun u hu => by
          obtain ⟨b, _, rfl⟩ := List.mem_map.1 hu
          rfl)
    exact ⟨cv, w', μ', .inl (by simp [execOp, ho, resolve, invoke, builtin, g1]), g2, g3, g4, g5⟩
  · exact h.elim

end ops
end Go.Proofs.Ytkjidklifmcpnaa.AD
