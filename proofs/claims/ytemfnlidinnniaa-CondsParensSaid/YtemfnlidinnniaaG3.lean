/- A plainer machine, eighteen: operations in any order. -/
import Derived.Test.YtemfnlidinnniaaG2
import Derived.Scope
import Derived.IntWalk
namespace Go.Proofs.Ytemfnlidinnniaa.AD
set_option linter.unusedVariables false
set_option linter.unusedSimpArgs false
section
variable {P : Program} {N B : Nat} {T : List Deferred} {ro : Option Nat} {nd : Nat}

/-- One operation, from these objects to those. -/
def StepAt (P : Program) (o : Oper) (v : AV) (fr : FR) (ba lo ba' lo' : List Ob) : Prop :=
  ∀ (ro : Option Nat) (nd : Nat) (μ : List MI) (w : World) (a : Act) (next : Act → World → Prop) (Q : Exit → Act → World → Prop), Inv μ w ba lo → Opnds o a μ w ba fr →
    (∀ c μ' w', VA ⟨blocks μ', ba.length, μ'⟩ w' c v → Inv μ' w' ba' lo' → Le μ w μ' w' → ba'.length = ba.length → next (a.put o.dst c) w') → o.wpIn (FW ro) nd P a w next Q

theorem stepAt_op {o : Oper} {i : IOp} {own : List Nat} {d : Bool} {fr : FR} {ba lo : List Ob} {K : AV → List Ob → List Ob → Prop} (hc : compO P own o = some i) (hn : isCall i = false) (h : opV P d i fr ba lo K) : ∃ v ba' lo', K v ba' lo' ∧ StepAt P o v fr ba lo ba' lo' := by
  obtain ⟨v, ba', lo', hk, hgv⟩ := op_out hc hn h
  refine ⟨v, ba', lo', hk, fun ro nd μ w a next Q hi ho hnext => ?_⟩
  obtain ⟨c, w', μ', hrun, g1, g2, g3, g4⟩ := hgv μ w a hi ho
  unfold Oper.wpIn
  refine ⟨fun _ _ => trivial, ?_⟩
  rw [Oper.semAt_eq _ _ _ (not_defer hc h)]
  rcases hrun with hrun | ⟨hrun, rfl⟩
  · rw [hrun, Oper.uponIn_value]; exact hnext c μ' w' g1 g2 g3 g4
  · rw [hrun, Oper.uponIn_skip]; exact hnext _ μ' w' g1 g2 g3 g4

theorem stepAt_of {o : Oper} {i : IOp} {own : List Nat} {v : AV} {fr : FR} {ba lo : List Ob} (hc : compO P own o = some i) (h : opV P false i fr ba lo fun v' b l => v' = v ∧ b = ba ∧ l = lo) : StepAt P o v fr ba lo ba lo := by
  cases hn : isCall i with
  | false =>
    obtain ⟨v', ba', lo', ⟨rfl, rfl, rfl⟩, hs⟩ := stepAt_op hc hn h
    exact hs
  | true =>
    intro ro nd μ w a next Q hi ho hnext
    refine call_op hc hn h hi ho fun c r μ' w' ba' lo' g1 g2 g3 g4 g5 => ?_
    obtain ⟨rfl, rfl, rfl⟩ := g5
    exact hnext c μ' w' g1 g2 g3 g4

/-- One operation where the order is open. -/
structure StepC (P : Program) (o : Oper) (io : IO_) (fr fr' : FR) (ba lo ba' lo' : List Ob) (v : AV) : Prop where
  put : fr' = putF fr io.dst v
  low : effect io.op < 2 → ba' = ba ∧ lo' = lo
  new : effect io.op = 3 → ba' = ba ∧ ∃ X, lo' = lo ++ X
  out : (∃ t b, io.guard = some (t, b) ∧ Unw (getF fr t) b ∧ v = .p (.tup []) ∧ ba' = ba ∧ lo' = lo) ∨
    ((∀ t b, io.guard = some (t, b) → getF fr t = .p (.bool b)) ∧ StepAt P o v fr ba lo ba' lo' ∧ (effect io.op = 0 → ∀ ba2 lo2, StepAt P o v fr ba2 lo2 ba2 lo2) ∧ (effect io.op = 1 → ∀ X, StepAt P o v fr ba (lo ++ X) ba (lo ++ X)))

theorem call_effect {i : IOp} (h : isCall i = true) : effect i = 1 ∨ ∃ f a, i = .callE f a := by cases i <;> first | exact .inl rfl | exact .inr ⟨_, _, rfl⟩ | cases h

def Seen (P : Program) (x : IOp × FR × AV) (ba lo : List Ob) : Prop := ∀ K : AV → List Ob → List Ob → Prop, K x.2.2 ba lo → opV P false x.1 x.2.1 ba lo K

theorem step_of {own : List Nat} {o : Oper} {i : IOp} {fr : FR} {ba lo : List Ob} {K : AV → List Ob → List Ob → Prop} (hc : compO P own o = some i) (h : opV P true i fr ba lo K) :
    ∃ v ba' lo', K v ba' lo' ∧ (effect i < 2 → ba' = ba ∧ lo' = lo) ∧ (effect i = 3 → ba' = ba ∧ ∃ X, lo' = lo ++ X) ∧ StepAt P o v fr ba lo ba' lo' ∧ (effect i = 0 → ∀ ba2 lo2, StepAt P o v fr ba2 lo2 ba2 lo2) ∧ (effect i = 1 → ∀ X, StepAt P o v fr ba (lo ++ X) ba (lo ++ X)) ∧ (effect i = 1 → Seen P (i, fr, v) ba lo) := by
  by_cases h0 : effect i = 0
  · obtain ⟨v, hk, h1⟩ := opV_quiet h0 h
    have hs : ∀ ba2 lo2, StepAt P o v fr ba2 lo2 ba2 lo2 := fun ba2 lo2 => stepAt_of hc (h1 ba2 lo2 _ ⟨rfl, rfl, rfl⟩)
    exact ⟨v, ba, lo, hk, fun _ => ⟨rfl, rfl⟩, fun _ => ⟨rfl, [], by simp⟩, hs _ _, fun _ => hs, fun _ X => hs _ _, fun e => by omega⟩
  · by_cases h1 : effect i = 1
    · obtain ⟨v, hk, h2⟩ := opV_reader h1 h
      have hs : ∀ X, StepAt P o v fr ba (lo ++ X) ba (lo ++ X) := fun X => stepAt_of hc (h2 X _ ⟨rfl, rfl, rfl⟩)
      exact ⟨v, ba, lo, hk, fun _ => ⟨rfl, rfl⟩, fun _ => ⟨rfl, [], by simp⟩, by have := hs []; rw [List.append_nil] at this; exact this, fun e => absurd e h0, fun _ => hs, fun _ K' hk' => by have := h2 [] K' (by rw [List.append_nil]; exact hk'); rwa [List.append_nil] at this⟩
    · by_cases hE : ∃ f a, i = .callE f a
      · obtain ⟨f, args, rfl⟩ := hE
        simp only [opV, evsK_eq] at h
        obtain ⟨r, ba', lo', h2, hk⟩ := h.out
        refine ⟨r, ba', lo', hk, fun e => absurd e (by simp [effect]), fun e => absurd e (by simp [effect]), ?_, fun e => absurd e h0, fun e => absurd e h1, fun e => absurd e h1⟩
        intro ro nd μ w a next Q hi ho hnext
        refine call_op (K := fun r' b l => r' = r ∧ b = ba' ∧ l = lo') hc rfl (by simp only [opV, evsK_eq]; exact h2) hi ho fun c r' μ' w' ba2 lo2 g1 g2 g3 g4 g5 => ?_
        obtain ⟨rfl, rfl, rfl⟩ := g5
        exact hnext c μ' w' g1 g2 g3 g4
      have hn : isCall i = false := by
        cases hb : isCall i with
        | false => rfl
        | true => rcases call_effect hb with e | e <;> contradiction
      have h' : opV P true i fr ba lo fun v b l => K v b l ∧ (effect i = 3 → b = ba ∧ ∃ X, l = lo ++ X) := by
        by_cases h3 : effect i = 3
        · cases i <;> simp only [effect] at h3 <;> try (cases h3; done)
          case alloc z =>
            simp only [opV, upPK_eq, pushK_eq] at h ⊢
            exact ⟨h, fun _ => ⟨trivial, _, rfl⟩⟩
          case box x =>
            simp only [opV, evK_eq] at h ⊢
            obtain ⟨cs, h, h2⟩ := cellsK_pt h
            rw [pushK_eq] at h
            exact h2 _ (by rw [pushK_eq]; exact ⟨h, fun _ => ⟨trivial, _, rfl⟩⟩)
          case lit own _ _ _ _ => cases own <;> simp at h3
          case nilb sz =>
            simp only [opV, pushK_eq] at h ⊢
            exact ⟨h, fun _ => ⟨trivial, _, rfl⟩⟩
        · have e : (fun v b l => K v b l ∧ (effect i = 3 → b = ba ∧ ∃ X, l = lo ++ X)) = K := by
            funext v b l
            exact propext ⟨fun h => h.1, fun h => ⟨h, fun e => absurd e h3⟩⟩
          rw [e]; exact h
      obtain ⟨v, ba', lo', ⟨hk, hx⟩, hs⟩ := stepAt_op hc hn h'
      exact ⟨v, ba', lo', hk, fun e => by omega, hx, hs, fun e => absurd e h0, fun e => absurd e h1, fun e => absurd e h1⟩

/-- The run in the text's order. -/
theorem canon {own : List Nat} {all : List Oper} {K : FR → List Ob → List Ob → Prop} : ∀ (l : List Oper) (is : List IO_) (i : Nat), compOps P N own all i l = some is → ∀ {fr : FR} {ba lo : List Ob}, opsV P true is fr ba lo K →
    ∃ (F : Nat → FR) (B' L : Nat → List Ob) (V : Nat → AV), F 0 = fr ∧ B' 0 = ba ∧ L 0 = lo ∧ K (F l.length) (B' l.length) (L l.length) ∧
      ∀ j o io, l[j]? = some o → is[j]? = some io → StepC P o io (F j) (F (j + 1)) (B' j) (L j) (B' (j + 1)) (L (j + 1)) (V j)
  | [], is, i, hc, fr, ba, lo, h => by
    cases hc
    exact ⟨fun _ => fr, fun _ => ba, fun _ => lo, fun _ => .p .undef, rfl, rfl, rfl, h, fun j o io e => by simp at e⟩
  | o :: l, is, i, hc, fr, ba, lo, h => by
    simp only [compOps] at hc
    split at hc
    · rename_i io ios hio hios
      cases hc
      obtain ⟨c1, c2, c3, c4⟩ := compI_out hio
      have rest : ∀ {v : AV} {ba' lo' : List Ob}, StepC P o io fr (putF fr io.dst v) ba lo ba' lo' v → opsV P true ios (putF fr io.dst v) ba' lo' K → ∃ (F : Nat → FR) (B' L : Nat → List Ob) (V : Nat → AV), F 0 = fr ∧ B' 0 = ba ∧ L 0 = lo ∧ K (F (o :: l).length) (B' (o :: l).length) (L (o :: l).length) ∧
          ∀ j o' io', (o :: l)[j]? = some o' → (io :: ios)[j]? = some io' → StepC P o' io' (F j) (F (j + 1)) (B' j) (L j) (B' (j + 1)) (L (j + 1)) (V j) := fun {v ba' lo'} hs h => by
        obtain ⟨F, B', L, V, e1, e2, e3, hk, hst⟩ := canon l ios (i + 1) hios h
        refine ⟨fun j => match j with | 0 => fr | j + 1 => F j, fun j => match j with | 0 => ba | j + 1 => B' j, fun j => match j with | 0 => lo | j + 1 => L j, fun j => match j with | 0 => v | j + 1 => V j, rfl, rfl, rfl, hk, fun j o' io' h1 h2 => ?_⟩
        cases j with
        | zero =>
          simp at h1 h2
          subst h1; subst h2
          show StepC P o io fr (F 0) ba lo (B' 0) (L 0) v
          rw [e1, e2, e3]; exact hs
        | succ j => exact hst j o' io' (by simpa using h1) (by simpa using h2)
      rcases opsV_cons h with ⟨hg, h⟩ | ⟨t, b, hg, hv, h⟩
      · obtain ⟨v, ba', lo', hk, s1, s2, s3, s4, s5, _⟩ := step_of c2 h
        exact rest ⟨rfl, s1, s2, .inr ⟨hg, s3, s4, s5⟩⟩ (nextK_out hk)
      · exact rest ⟨rfl, fun _ => ⟨rfl, rfl⟩, fun _ => ⟨rfl, [], by simp⟩, .inl ⟨t, b, hg, hv, rfl, rfl, rfl⟩⟩ h
    · cases hc

theorem compOps_get {own : List Nat} {all : List Oper} : ∀ (l : List Oper) (is : List IO_) (i : Nat), compOps P N own all i l = some is → is.length = l.length ∧ ∀ j o io, l[j]? = some o → is[j]? = some io → compI P N own all (i + j) o = some io
  | [], is, i, hc => by cases hc; exact ⟨rfl, fun j o io e => by simp at e⟩
  | o :: l, is, i, hc => by
    simp only [compOps] at hc
    split at hc
    · rename_i io ios hio hios
      cases hc
      obtain ⟨h1, h2⟩ := compOps_get l ios (i + 1) hios
      refine ⟨by simp [h1], fun j o' io' e1 e2 => ?_⟩
      cases j with
      | zero => simp at e1 e2; subst e1; subst e2; exact hio
      | succ j => have := h2 j o' io' (by simpa using e1) (by simpa using e2); rwa [show i + 1 + j = i + (j + 1) by omega] at this
    · cases hc

/-! #### which stands ahead of which -/

/-- With an operation all those that it waits for. -/
def Shut (all : List Oper) (S : Nat → Prop) : Prop := ∀ i o, all[i]? = some o → S i → ∀ e, e ∈ o.after.toList → Region.binds .any e = true → S e.on

theorem bits_sound {acc : List Nat} {S : Nat → Prop} : ∀ (es : List Edge) (s : Nat), (∀ k, s.testBit k = true → S k) → (∀ e, e ∈ es → Region.binds .any e = true → S e.on ∧ ∀ k, (acc.getD e.on 0).testBit k = true → S k) →
    ∀ k, (es.foldl (fun s e => if Region.binds .any e then s ||| 2 ^ e.on ||| acc.getD e.on 0 else s) s).testBit k = true → S k
  | [], s, h, _, k, hk => h k hk
  | e :: r, s, h, h2, k, hk => by
    simp only [List.foldl_cons] at hk
    refine bits_sound r _ ?_ (fun e' he' => h2 e' (by simp [he'])) k hk
    intro k' hk'
    split at hk'
    · rename_i hb
      obtain ⟨h3, h4⟩ := h2 e (by simp) hb
      simp only [Nat.testBit_or, Bool.or_eq_true] at hk'
      rcases hk' with (hk' | hk') | hk'
      · exact h k' hk'
      · rw [Nat.testBit_two_pow] at hk'
        have : e.on = k' := by simpa using hk'
        rw [← this]; exact h3
      · exact h4 k' hk'
    · exact h k' hk'

theorem befores_sound (all : List Oper) : ∀ (l pre : List Oper) (acc : List Nat), all = pre ++ l → acc.length = pre.length →
    (∀ j o, j < acc.length → all[j]? = some o → ∀ S, Shut all S → (∀ e, e ∈ o.after.toList → Region.binds .any e = true → S e.on) → ∀ k, (acc.getD j 0).testBit k = true → S k) →
    ∀ j o, all[j]? = some o → ∀ S, Shut all S → (∀ e, e ∈ o.after.toList → Region.binds .any e = true → S e.on) → ∀ k,
      ((l.foldl (fun acc o => acc ++ [o.after.toList.foldl (fun s e => if Region.binds .any e then s ||| 2 ^ e.on ||| acc.getD e.on 0 else s) 0]) acc).getD j 0).testBit k = true → S k
  | [], pre, acc, he, hl, hg, j, o, hj, S, hS, hs, k, hk => hg j o (by rw [hl]; rw [he, List.append_nil] at hj; exact get_lt hj) hj S hS hs k hk
  | x :: l, pre, acc, he, hl, hg, j, o, hj, S, hS, hs, k, hk => by
    simp only [List.foldl_cons] at hk
    refine befores_sound all l (pre ++ [x]) _ (by simp [he]) (by simp [hl]) ?_ j o hj S hS hs k hk
    intro j' o' hj' ho' S' hS' hs' k' hk'
    rcases Nat.lt_or_ge j' acc.length with h1 | h1
    · rw [List.getD_eq_getElem?_getD, List.getElem?_append_left h1, ← List.getD_eq_getElem?_getD] at hk'
      exact hg j' o' h1 ho' S' hS' hs' k' hk'
    · have e : j' = acc.length := by simp at hj'; omega
      subst e
      have ex : o' = x := by
        rw [he, hl, List.getElem?_append_right (Nat.le_refl _)] at ho'
        simpa using ho'.symm
      subst ex
      rw [List.getD_eq_getElem?_getD, List.getElem?_append_right (Nat.le_refl _)] at hk'
      simp only [Nat.sub_self, List.getElem?_cons_zero, Option.getD_some] at hk'
      refine bits_sound _ 0 (fun k h => by simp at h) (fun e hem hb => ⟨hs' e hem hb, fun k2 hk2 => ?_⟩) k' hk'
      rcases Nat.lt_or_ge e.on acc.length with h2 | h2
      · have h3 : e.on < all.length := by rw [he]; simp; omega
        exact hg e.on all[e.on] h2 (List.getElem?_eq_getElem h3) S' hS' (hS' e.on all[e.on] (List.getElem?_eq_getElem h3) (hs' e hem hb)) k2 hk2
      · rw [List.getD_eq_getElem?_getD, List.getElem?_eq_none h2] at hk2
        simp at hk2

/-! #### what a place holds when some have been -/

def valS (D : Nat → Option Nat) (V : Nat → AV) (fr : FR) (S : Nat → Bool) : Nat → Nat → AV
  | 0, t => getF fr t
  | k + 1, t => if S k = true ∧ D k = some t then V k else valS D V fr S k t

theorem valS_agree {D : Nat → Option Nat} {V : Nat → AV} {fr : FR} {S : Nat → Bool} {i t : Nat} : ∀ {n : Nat}, (∀ j, j < n → D j = some t → (S j = true ↔ j < i)) → valS D V fr S n t = valS D V fr (fun _ => true) (min n i) t
  | 0, _ => by simp [valS]
  | n + 1, h => by
    have ih := valS_agree (n := n) (V := V) (fr := fr) fun j hj => h j (by omega)
    simp only [valS]
    rcases Nat.lt_or_ge n i with h1 | h1
    · rw [show min (n + 1) i = n + 1 by omega]
      rw [show min n i = n by omega] at ih
      simp only [valS]
      by_cases h2 : D n = some t
      · rw [if_pos ⟨(h n (by omega) h2).2 h1, h2⟩, if_pos ⟨trivial, h2⟩]
      · rw [if_neg (fun e => h2 e.2), if_neg (fun e => h2 e.2)]; exact ih
    · rw [show min (n + 1) i = min n i by omega, ← ih]
      rw [if_neg]
      intro e
      have := (h n (by omega) e.2).1 e.1
      omega

theorem valS_put {D : Nat → Option Nat} {V : Nat → AV} {fr : FR} {S S' : Nat → Bool} {i t : Nat} (hS : ∀ j, j ≠ i → S' j = S j) : ∀ {n : Nat}, D i ≠ some t → valS D V fr S' n t = valS D V fr S n t
  | 0, _ => rfl
  | n + 1, h => by
    simp only [valS, valS_put (n := n) hS h]
    by_cases e : n = i
    · subst e; rw [if_neg (fun e => h e.2), if_neg (fun e => h e.2)]
    · rw [hS n e]
theorem valS_self {D : Nat → Option Nat} {V : Nat → AV} {fr : FR} {S : Nat → Bool} {i t : Nat} (hi : S i = true) (hd : D i = some t) : ∀ {n : Nat}, i < n → (∀ j, j < n → i < j → D j = some t → S j = false) → valS D V fr S n t = V i
  | 0, h, _ => absurd h (by omega)
  | n + 1, h, h2 => by
    simp only [valS]
    by_cases e : n = i
    · subst e; rw [if_pos ⟨hi, hd⟩]
    · rw [if_neg, valS_self (n := n) hi hd (by omega) fun j hj => h2 j (by omega)]
      intro e2
      have := h2 n (by omega) (by omega) e2.2
      rw [this] at e2
      cases e2.1

theorem getD_set {l : Array Bool} {i j : Nat} (hi : i < l.size) : (l.setIfInBounds i true).getD j false = if j = i then true else l.getD j false := by
  by_cases h : j = i
  · subst h; simp [hi]
  · simp [Array.getElem?_setIfInBounds_ne (fun e => h e.symm), h]

/-- An operation that panics. -/
def StepD (P : Program) (o : Oper) (fr : FR) (ba lo : List Ob) (X : XV) : Prop :=
  ∀ (ro : Option Nat) (nd : Nat) (μ : List MI) (w : World) (a : Act) (next : Act → World → Prop) (Q : Exit → Act → World → Prop), Inv μ w ba lo → Opnds o a μ w ba fr →
    (∀ ch μ' w' ba' lo', X ch ba' lo' → Inv μ' w' ba' lo' → Le μ w μ' w' → ba'.length = ba.length → Q (.panic ch) a w') → o.wpIn (FW ro) nd P a w next Q

theorem any_sound {m : Bool} {own : List Nat} {all : List Oper} {is : List IO_} {id : Nat} {Q : Exit → Act → World → Prop} {K : FR → List Ob → List Ob → Prop} {X : XV} {μ : List MI} {w : World} {a : Act} {fr : FR} {ba lo : List Ob} (hc : compOps P N own all 0 all = some is) (hd : drawOk m all is = true) (hm : P.follows .mixedOrders = true)
    {F : Nat → FR} {B' L : Nat → List Ob} {V : Nat → AV} (e1 : F 0 = fr) (e2 : B' 0 = ba) (e3 : L 0 = lo) (c0 : Nat) (hc0 : c0 ≤ all.length) (hk : c0 = all.length → K (F c0) (B' c0) (L c0)) (hst : ∀ j o io, j < c0 → all[j]? = some o → is[j]? = some io → StepC P o io (F j) (F (j + 1)) (B' j) (L j) (B' (j + 1)) (L (j + 1)) (V j))
    (hread : m = true → ∀ j h o io, j < h → h ≤ c0 → all[j]? = some o → is[j]? = some io → effect io.op = 1 → (∀ t b, io.guard = some (t, b) → getF (F j) t = .p (.bool b)) → (∀ k, j < k → k < h → 2 ≤ effect (is.getD k default).op → ((befores all).getD k 0).testBit j = false) → StepAt P o (V j) (F j) (B' h) (L h) (B' h) (L h))
    (hdead : c0 < all.length → (∀ j, c0 < j → j < all.length → ((befores all).getD j 0).testBit c0 = true) ∧ ∀ o io, all[c0]? = some o → is[c0]? = some io → io.guard = none ∧ 2 ≤ effect io.op ∧ StepD P o (F c0) (B' c0) (L c0) X)
    (hqx : ∀ ch ba' lo' μ' w' a', X ch ba' lo' → Rel N B T μ' w' a' [] ba' lo' → Le μ w μ' w' → ba'.length = ba.length → Q (.panic ch) a' w')
    (hr : Rel N B T μ w a fr ba lo)
    (hq : ∀ fr' ba' lo' μ' w' a', K fr' ba' lo' → Rel N B T μ' w' a' fr' ba' lo' → Le μ w μ' w' → ba'.length = ba.length → Q .normal a' w') : (Code.region id all.toArray true).wpIn (FW ro) nd P Q a w := by
  obtain ⟨hlen, hci⟩ := compOps_get all is 0 hc
  simp only [Nat.zero_add] at hci
  simp only [drawOk, Bool.and_eq_true, List.all_eq_true, List.mem_range, Bool.or_eq_true] at hd
  obtain ⟨⟨_, hpair⟩, hedge⟩ := hd
  have hedge : ∀ i o, all[i]? = some o → ∀ e, e ∈ o.after.toList → Region.binds .any e = true → e.on < i := fun i o ho e he hb => by
    have := hedge (o, i) (List.mk_mem_zipIdx_iff_getElem?.2 ho) e he
    simpa [hb] using this
  have hbef : ∀ j o, all[j]? = some o → ∀ S, Shut all S → (∀ e, e ∈ o.after.toList → Region.binds .any e = true → S e.on) → ∀ k, ((befores all).getD j 0).testBit k = true → S k :=
    befores_sound all all [] [] rfl rfl fun j o hj => absurd hj (by simp)
  -- the operations
  generalize hn : all.length = n at *
  let E : Nat → Nat := fun j => effect (is.getD j default).op
  let D : Nat → Option Nat := fun j => (all[j]?).bind (·.dst)
  have oi0 : ∀ j, j < n → ∃ o io, all[j]? = some o ∧ is[j]? = some io ∧ E j = effect io.op ∧ D j = o.dst ∧ io.dst = o.dst ∧ compI P N own all j o = some io ∧ (j < c0 → StepC P o io (F j) (F (j + 1)) (B' j) (L j) (B' (j + 1)) (L (j + 1)) (V j)) := fun j hj => by
    have h1 : all[j]? = some all[j] := List.getElem?_eq_getElem (by omega)
    have h2 : is[j]? = some is[j] := List.getElem?_eq_getElem (by omega)
    have h3 := hci j _ _ h1 h2
    refine ⟨_, _, h1, h2, ?_, ?_, (compI_out h3).2.2.1, h3, fun hjc => hst j _ _ hjc h1 h2⟩
    · simp [E, h2]
    · simp [D, h1]
  have oi : ∀ j, j < c0 → ∃ o io, all[j]? = some o ∧ is[j]? = some io ∧ E j = effect io.op ∧ D j = o.dst ∧ io.dst = o.dst ∧ compI P N own all j o = some io ∧ StepC P o io (F j) (F (j + 1)) (B' j) (L j) (B' (j + 1)) (L (j + 1)) (V j) := fun j hj => by
    obtain ⟨o, io, a1, a2, a3, a4, a5, a6, a7⟩ := oi0 j (by omega)
    exact ⟨o, io, a1, a2, a3, a4, a5, a6, a7 hj⟩
  have hF : ∀ i, i ≤ c0 → ∀ t, getF (F i) t = valS D V fr (fun _ => true) i t := by
    intro i
    induction i with
    | zero => intro _ t; rw [e1]; rfl
    | succ i ih =>
      intro hi t
      obtain ⟨o, io, h1, h2, h3, h4, h5, h6, h7⟩ := oi i (by omega)
      rw [h7.put, h5]
      simp only [valS, h4]
      cases hdst : o.dst with
      | none => simp only [putF]; rw [if_neg (by simp)]; exact ih (by omega) t
      | some d =>
        simp only [putF, get_set]
        by_cases e : d = t
        · subst e; rw [if_pos rfl, if_pos ⟨trivial, rfl⟩]
        · rw [if_neg e, if_neg (by simp [e])]; exact ih (by omega) t
  have same : ∀ p q, p ≤ q → q ≤ c0 → (∀ j, p ≤ j → j < q → E j < 2) → B' q = B' p ∧ L q = L p := by
    intro p q hpq
    induction hpq with
    | refl => intro _ _; exact ⟨rfl, rfl⟩
    | step hpq ih =>
      rename_i q
      intro hq hE
      obtain ⟨o, io, h1, h2, h3, h4, h5, h6, h7⟩ := oi q (by omega)
      obtain ⟨g1, g2⟩ := h7.low (by rw [← h3]; exact hE q hpq (by omega))
      obtain ⟨i1, i2⟩ := ih (by omega) fun j hj hj2 => hE j hj (by omega)
      exact ⟨g1.trans i1, g2.trans i2⟩
  have grow : ∀ p q, p ≤ q → q ≤ c0 → (∀ j, p ≤ j → j < q → E j < 2 ∨ E j = 3) → B' q = B' p ∧ ∃ X, L q = L p ++ X := by
    intro p q hpq
    induction hpq with
    | refl => intro _ _; exact ⟨rfl, [], by simp⟩
    | step hpq ih =>
      rename_i q
      intro hq hE
      obtain ⟨o, io, h1, h2, h3, h4, h5, h6, h7⟩ := oi q (by omega)
      obtain ⟨i1, X, i2⟩ := ih (by omega) fun j hj hj2 => hE j hj (by omega)
      rcases hE q hpq (by omega) with h8 | h8
      · obtain ⟨g1, g2⟩ := h7.low (by rw [← h3]; exact h8)
        exact ⟨g1.trans i1, X, g2.trans i2⟩
      · obtain ⟨g1, Y, g2⟩ := h7.new (by rw [← h3]; exact h8)
        exact ⟨g1.trans i1, X ++ Y, by rw [g2, i2, List.append_assoc]⟩
  have hE4 : ∀ j, E j ≤ 3 := fun j => by
    show effect _ ≤ 3
    generalize (is.getD j default).op = i
    cases i <;> simp only [effect] <;> first | omega | (split <;> omega)
  -- the invariant
  let J : Array Bool → Act → World → Prop := fun l a' w' => l.size = n ∧ Shut all (fun i => l.getD i false = true) ∧ a'.tmps.size = N ∧ a'.defers = a.defers ∧ (∀ j, c0 ≤ j → l.getD j false = false) ∧
    ∃ h μ', h ≤ c0 ∧ (∀ j, j < c0 → 2 ≤ E j → (l.getD j false = true ↔ j < h)) ∧ Inv μ' w' (B' h) (L h) ∧ (B' h).length = ba.length ∧ Le μ w μ' w' ∧
      ∀ t, VA ⟨blocks μ', ba.length, μ'⟩ w' (a'.tmps.getD t undef) (valS D V fr (fun j => l.getD j false) c0 t)
  have fin : ∀ l a' w', J l a' w' → (∀ i, i < n → l.getD i false = true) → Q .normal a' w' := by
    rintro l a' w' ⟨j1, j2, j3, j4, jd, h, μ', j5, j6, j7, j8, j9, j10⟩ hall
    have hcn : c0 = n := by
      rcases Nat.lt_or_ge c0 n with h8 | h8
      · have := hall c0 h8; rw [jd c0 (Nat.le_refl _)] at this; cases this
      · omega
    subst hcn
    obtain ⟨s1, s2⟩ := same h c0 j5 (Nat.le_refl _) fun j hj hj2 => by
      rcases Nat.lt_or_ge (E j) 2 with h1 | h1
      · exact h1
      · have := (j6 j hj2 h1).1 (hall j hj2); omega
    refine hq (F c0) (B' c0) (L c0) μ' w' a' (hk rfl) ⟨by rw [s1, s2]; exact j7, j3, Nat.le_trans hr.base j9.stays.1, by rw [j4]; exact hr.defers.mono j9.stays, fun t => ?_⟩ j9 (by rw [s1]; exact j8)
    rw [s1, j8, hF c0 (Nat.le_refl _) t]
    have := valS_agree (D := D) (V := V) (fr := fr) (S := fun j => l.getD j false) (i := c0) (t := t) (n := c0) fun j hj _ => ⟨fun _ => hj, fun _ => hall j hj⟩
    rw [Nat.min_self] at this
    rw [← this]
    exact j10 t
  have ready : ∀ l i, l.size = n → (i ∈ Region.ready .any all.toArray l ↔ i < n ∧ l.getD i false = false ∧ ∀ o, all[i]? = some o → ∀ e, e ∈ o.after.toList → Region.binds .any e = true → l.getD e.on false = true) := by
    intro l i hl
    unfold Region.ready
    simp only [List.mem_filter, List.mem_range, Bool.and_eq_true, Bool.not_eq_true', List.size_toArray, hn]
    constructor
    · rintro ⟨h1, h2, h3⟩
      have hi : i < l.size := by omega
      refine ⟨h1, by simpa [hi] using h2, fun o ho e he hb => ?_⟩
      simp only [List.getElem?_toArray, ho, Option.map_some, Option.getD_some, ← Array.all_toList, List.all_eq_true] at h3
      simpa [hb] using h3 e he
    · rintro ⟨h1, h2, h3⟩
      have hi : i < l.size := by omega
      obtain ⟨o, _, ho, _⟩ := oi0 i h1
      refine ⟨h1, by simpa [hi] using h2, ?_⟩
      simp only [List.getElem?_toArray, ho, Option.map_some, Option.getD_some, ← Array.all_toList, List.all_eq_true]
      intro e he
      by_cases hb : Region.binds .any e = true
      · simp [h3 o ho e he hb]
      · simp [hb]
  have done : ∀ l a' w', J l a' w' → Region.ready .any all.toArray l = [] → Q .normal a' w' := by
    intro l a' w' hj hrd
    refine fin l a' w' hj fun i hi => ?_
    induction i using Nat.strongRecOn with
    | _ i ih =>
      cases hb : l.getD i false with
      | true => rfl
      | false =>
        have : i ∈ Region.ready .any all.toArray l := (ready l i hj.1).2 ⟨hi, hb, fun o ho e he hbd => ih e.on (hedge i o ho e he hbd) (by have := hedge i o ho e he hbd; omega)⟩
        rw [hrd] at this
        cases this
  have step : ∀ l a' w' i, J l a' w' → i ∈ Region.ready .any all.toArray l → ∀ next : Act → World → Prop, (∀ a'' w'', J (l.setIfInBounds i true) a'' w'' → next a'' w'') → wpOpIn (FW ro) nd P all.toArray Q i next a' w' := by
    rintro l a' w' i ⟨j1, j2, j3, j4, jd, h, μ', j5, j6, j7, j8, j9, j10⟩ hi next hnext
    obtain ⟨hin, hnl, hed⟩ := (ready l i j1).1 hi
    obtain ⟨o, io, h1, h2, h3, h4, h5, h6, h7⟩ := oi0 i hin
    obtain ⟨c1, c2, c3, c4⟩ := compI_out h6
    have hedo := hed o h1
    have hic : i ≤ c0 := by
      rcases Nat.lt_or_ge c0 i with h8 | h8
      · have := hbef i o h1 _ j2 hedo c0 ((hdead (by omega)).1 i h8 hin)
        have := this.symm.trans (jd c0 (Nat.le_refl _))
        cases this
      · exact h8
    have getO : ∀ {j x}, all[j]? = some x → all.getD j default = x := fun {j x} e => by rw [List.getD_eq_getElem?_getD, e]; rfl
    have f1 : ∀ j oj, j < i → all[j]? = some oj → l.getD j false ≠ true → freePair m all.toArray oj o (E j) (E i) = true := fun j oj hji hoj hl => by
      rcases hpair i hin j hji with h8 | h8
      · exact absurd (hbef i o h1 _ j2 hedo j h8) hl
      · rwa [getO hoj, getO h1] at h8
    have f2 : ∀ j oj, j < n → i < j → all[j]? = some oj → l.getD j false = true → freePair m all.toArray o oj (E i) (E j) = true := fun j oj hjn hij hoj hl => by
      rcases hpair j hjn i hij with h8 | h8
      · have := hbef j oj hoj _ j2 (j2 j oj hoj hl) i h8
        rw [hnl] at this
        cases this
      · rwa [getO hoj, getO h1] at h8
    have agree : ∀ t, t ∈ o.looksAt all.toArray → VA ⟨blocks μ', ba.length, μ'⟩ w' (a'.tmps.getD t undef) (getF (F i) t) := fun t ht => by
      rw [hF i (by omega) t]
      have := valS_agree (D := D) (V := V) (fr := fr) (S := fun j => l.getD j false) (i := i) (t := t) (n := c0) fun j hj hd => by
        obtain ⟨oj, ioj, k1, k2, k3, k4, _⟩ := oi0 j (by omega)
        rw [k4] at hd
        constructor
        · intro hl
          rcases Nat.lt_trichotomy j i with h8 | h8 | h8
          · exact h8
          · subst h8; rw [hnl] at hl; cases hl
          · have := f2 j oj (by omega) h8 k1 hl
            simp only [freePair, Bool.and_eq_true] at this
            exact absurd ht ((Oper.apart_spec this.1).2.2 t hd)
        · intro hji
          cases hb : l.getD j false with
          | true => rfl
          | false =>
            have := f1 j oj hji k1 (by rw [hb]; simp)
            simp only [freePair, Bool.and_eq_true] at this
            exact absurd ht ((Oper.apart_spec this.1).1 t hd)
      rw [Nat.min_eq_right (by omega)] at this
      rw [← this]
      exact j10 t
    have opn : Opnds o a' μ' w' (B' h) (F i) := fun x r hx hxr => by
      rw [j8]
      cases r with
      | v e => exact rv_const hxr
      | t m =>
        cases x with
        | tmp t =>
          cases hxr
          exact agree m (List.mem_append_left _ (List.mem_filterMap.2 ⟨.tmp m, hx, rfl⟩))
        | const v => simp only [rv] at hxr; obtain ⟨e, _, h2⟩ := map_some hxr; cases h2
        | func f => cases hxr
        | global g => cases hxr
    have shut' : Shut all (fun j => (l.setIfInBounds i true).getD j false = true) := fun j oj hoj hl e he hb => by
      show (l.setIfInBounds i true).getD e.on false = true
      have hl : (l.setIfInBounds i true).getD j false = true := hl
      rw [getD_set (by omega)] at hl ⊢
      split
      · rfl
      · by_cases e' : j = i
        · subst e'
          exact hed oj hoj e he hb
        · rw [if_neg e'] at hl
          exact j2 j oj hoj hl e he hb
    have ahead : 1 ≤ E i → ∀ j, j < i → 2 ≤ E j → l.getD j false = true := fun hEi j hji h2 => by
      cases hb : l.getD j false with
      | true => rfl
      | false =>
        obtain ⟨oj, ioj, k1, _⟩ := oi0 j (by omega)
        have := f1 j oj hji k1 (by rw [hb]; simp)
        simp only [freePair, Bool.and_eq_true, Bool.or_eq_true, beq_iff_eq] at this
        omega
    have here : 1 ≤ E i → h ≤ i → B' i = B' h ∧ L i = L h := fun hEi hle => same h i hle (by omega) fun j hj hji => by
      rcases Nat.lt_or_ge (E j) 2 with h8 | h8
      · exact h8
      · have := (j6 j (by omega) h8).1 (ahead hEi j hji h8); omega
    unfold wpOpIn
    have h1' : all.toArray[i]? = some o := by simpa using h1
    simp only [h1']
    rcases Nat.lt_or_ge i c0 with hlt0 | hge0
    rotate_left
    · have hi0 : i = c0 := by omega
      subst hi0
      obtain ⟨d1, d2, d3⟩ := (hdead hin).2 o io h1 h2
      rw [if_pos (wanted_of h6 fun t b hgt => by rw [d1] at hgt; cases hgt)]
      obtain ⟨s1, s2⟩ := here (by omega) j5
      refine d3 ro nd μ' w' a' next Q (by rw [s1, s2]; exact j7) (by rw [s1]; exact opn) fun ch μ'' w'' b2 l2 g1 g2 g3 g4 => ?_
      rw [s1, j8] at g4
      refine hqx ch b2 l2 μ'' w'' a' g1 ⟨g2, j3, Nat.le_trans hr.base (j9.trans g3).stays.1, by rw [j4]; exact hr.defers.mono (j9.trans g3).stays, fun t => .p _ _ (.undef _)⟩ (j9.trans g3) g4
    have h7 := h7 hlt0
    -- after it
    have after : ∀ (c : Value) (μ'' : List MI) (w'' : World) (h' : Nat), h' ≤ c0 → (∀ j, j < c0 → 2 ≤ E j → ((l.setIfInBounds i true).getD j false = true ↔ j < h')) → Inv μ'' w'' (B' h') (L h') → (B' h').length = ba.length → Le μ' w' μ'' w'' → VA ⟨blocks μ'', ba.length, μ''⟩ w'' c (V i) → next (a'.put o.dst c) w'' := by
      intro c μ'' w'' h' g1 g2 g3 g4 g5 g6
      refine hnext _ _ ⟨by simp [j1], shut', ?_, ?_, fun j hj => by rw [getD_set (by omega), if_neg (by omega)]; exact jd j hj, h', μ'', g1, g2, g3, g4, j9.trans g5, fun t => ?_⟩
      · cases o.dst <;> simp [Act.put, j3]
      · cases o.dst <;> simp [Act.put, j4]
      · have hS : ∀ j, j ≠ i → (l.setIfInBounds i true).getD j false = l.getD j false := fun j hj => by rw [getD_set (by omega), if_neg hj]
        have hSi : (l.setIfInBounds i true).getD i false = true := by rw [getD_set (by omega), if_pos rfl]
        by_cases hdt : D i = some t
        · rw [valS_self (S := fun j => (l.setIfInBounds i true).getD j false) hSi hdt hlt0 fun j hj hij hdj => ?_]
          · rw [h4] at hdt
            have hlt := c1 t hdt
            have : (a'.put o.dst c).tmps.getD t undef = c := by rw [hdt]; simp [Act.put, j3, hlt]
            rw [this]; exact g6
          · rw [hS j (by omega)]
            cases hb : l.getD j false with
            | false => rfl
            | true =>
              obtain ⟨oj, ioj, k1, k2, k3, k4, _⟩ := oi0 j (by omega)
              have := f2 j oj (by omega) hij k1 hb
              simp only [freePair, Bool.and_eq_true] at this
              rw [k4] at hdj
              rw [h4] at hdt
              exact absurd hdj ((Oper.apart_spec this.1).2.1 t hdt)
        · rw [valS_put (S := fun j => l.getD j false) hS hdt]
          have : (a'.put o.dst c).tmps.getD t undef = a'.tmps.getD t undef := by
            rw [h4] at hdt
            cases hd2 : o.dst with
            | none => rfl
            | some d =>
              have : d ≠ t := fun e => hdt (by rw [hd2, e])
              simp [Act.put, Array.getElem?_setIfInBounds_ne this]
          rw [this]
          exact (j10 t).mono g5.stays g5.above
    -- the objects
    have later : E i < 2 → ∀ j, j < c0 → 2 ≤ E j → ((l.setIfInBounds i true).getD j false = true ↔ j < h) := fun hEi j hj h2 => by
      rw [getD_set (by omega), if_neg (by intro e; subst e; omega)]
      exact j6 j hj h2
    have before2 : 2 ≤ E i → h ≤ i := fun h8 => by
      rcases Nat.lt_or_ge i h with h9 | h9
      · have := (j6 i hlt0 h8).2 h9; rw [hnl] at this; cases this
      · exact h9
    have after2 : 2 ≤ E i → ∀ j, j < c0 → 2 ≤ E j → ((l.setIfInBounds i true).getD j false = true ↔ j < i + 1) := fun hEi j hj h8 => by
      rw [getD_set (by omega)]
      have hle := before2 hEi
      rcases Nat.lt_trichotomy j i with h9 | h9 | h9
      · rw [if_neg (by omega)]; exact ⟨fun _ => by omega, fun _ => ahead (by omega) j h9 h8⟩
      · subst h9; simp
      · rw [if_neg (by omega)]
        exact ⟨fun e => by have := (j6 j hj h8).1 e; omega, fun e => by omega⟩
    have guardV : ∀ t b, io.guard = some (t, b) → t ∈ o.looksAt all.toArray := fun t b hg => by
      rcases c4 with ⟨_, c5⟩ | ⟨j, b', g, t', k1, k2, k3, k4⟩
      · rw [c5] at hg; cases hg
      · rw [k4] at hg
        cases hg
        refine List.mem_append_right _ ?_
        simp [k1, k2, k3]
    rcases h7.out with ⟨t, b, hg, hv, hV, hB, hL⟩ | ⟨hg, hs, hs0, hs1⟩
    · rw [if_neg (by
        rw [unwanted_of h6 hg ((agree t (guardV t _ hg)).unw hv)]
        simp)]
      refine ⟨fun _ _ => trivial, ?_⟩
      have hund : VA ⟨blocks μ', ba.length, μ'⟩ w' undef (V i) := by rw [hV]; exact .skip _ _
      rcases Nat.lt_or_ge (E i) 2 with h8 | h8
      · exact after _ μ' w' h j5 (later h8) j7 j8 (.refl _ _) hund
      · obtain ⟨s1, s2⟩ := here (by omega) (before2 h8)
        exact after _ μ' w' (i + 1) (by omega) (after2 h8) (by rw [hB, hL, s1, s2]; exact j7) (by rw [hB, s1]; exact j8) (.refl _ _) hund
    · rw [if_pos (wanted_of h6 fun t b hgt => by have := agree t (guardV t b hgt); rw [hg t b hgt] at this; exact this.bool_inv)]
      rcases Nat.lt_or_ge (E i) 2 with h8 | h8
      · rcases Nat.eq_zero_or_pos (E i) with h9 | h9
        · refine hs0 (by rw [← h3]; exact h9) (B' h) (L h) ro nd μ' w' a' next Q j7 opn fun c μ'' w'' g1 g2 g3 g4 => ?_
          rw [j8] at g1
          exact after c μ'' w'' h j5 (later h8) g2 j8 g3 g1
        · have hE1 : E i = 1 := by omega
          have hx : StepAt P o (V i) (F i) (B' h) (L h) (B' h) (L h) := by
            rcases Nat.lt_or_ge i h with hlt | hge
            · cases hmm : m with
              | true =>
                refine hread hmm i h o io hlt j5 h1 h2 (by rw [← h3]; exact hE1) hg fun k hik hkh hk2 => ?_
                cases hbit : ((befores all).getD k 0).testBit i with
                | false => rfl
                | true =>
                  obtain ⟨ok, iok, q1, _⟩ := oi0 k (by omega)
                  have hdone := (j6 k (by omega) hk2).2 hkh
                  have hq := hbef k ok q1 _ j2 (j2 k ok q1 hdone) i hbit
                  rw [hnl] at hq
                  cases hq
              | false =>
                obtain ⟨b1, X, b2⟩ := grow i h (by omega) j5 fun j hj hj2 => by
                  rcases Nat.lt_or_ge (E j) 2 with h8 | h8
                  · exact .inl h8
                  · have hij : i < j := by
                      rcases Nat.lt_or_ge i j with h' | h'
                      · exact h'
                      · have : i = j := by omega
                        subst this; omega
                    obtain ⟨oj, ioj, k1, _⟩ := oi0 j (by omega)
                    have := f2 j oj (by omega) hij k1 ((j6 j (by omega) h8).2 hj2)
                    simp only [freePair, Bool.and_eq_true, Bool.or_eq_true, beq_iff_eq, hmm, Bool.false_eq_true, false_or] at this
                    right; omega
                have := hs1 (by rw [← h3]; exact hE1) X
                rw [← b1, ← b2] at this
                exact this
            · obtain ⟨s1, s2⟩ := here (by omega) hge
              have := hs1 (by rw [← h3]; exact hE1) []
              rw [List.append_nil, s1, s2] at this
              exact this
          refine hx ro nd μ' w' a' next Q j7 opn fun c μ'' w'' g1 g2 g3 g4 => ?_
          rw [j8] at g1
          exact after c μ'' w'' h j5 (later h8) g2 j8 g3 g1
      · obtain ⟨s1, s2⟩ := here (by omega) (before2 h8)
        have b3 : (B' i).length = ba.length := by rw [s1]; exact j8
        refine hs ro nd μ' w' a' next Q (by rw [s1, s2]; exact j7) (by rw [s1]; exact opn) fun c μ'' w'' g1 g2 g3 g4 => ?_
        rw [b3] at g1 g4
        exact after c μ'' w'' (i + 1) (by omega) (after2 h8) g2 g4 g3 g1
  have main : ∀ (fuel : Nat) (l : Array Bool) (a' : Act) (w' : World), l.count false ≤ fuel → J l a' w' → wpAnyIn (FW ro) nd P .any all.toArray Q fuel l a' w' := by
    intro fuel
    induction fuel with
    | zero =>
      intro l a' w' hcount hj
      have hnil : Region.ready .any all.toArray l = [] := by
        rw [List.eq_nil_iff_forall_not_mem]
        intro i hi
        obtain ⟨g1, g2, _⟩ := (ready l i hj.1).1 hi
        have hil : i < l.size := by rw [hj.1]; exact g1
        have : false ∈ l := by
          have : l[i] = false := by simpa [hil] using g2
          rw [← this]; exact Array.getElem_mem hil
        have := Array.count_pos_iff.2 this
        omega
      exact ⟨hnil, done l a' w' hj hnil⟩
    | succ fuel ih =>
      intro l a' w' hcount hj
      refine ⟨fun hnil => done l a' w' hj hnil, fun i hi => step l a' w' i hj hi _ fun a'' w'' hj' => ih _ _ _ ?_ hj'⟩
      obtain ⟨g1, g2, _⟩ := (ready l i hj.1).1 hi
      have hil : i < l.size := by rw [hj.1]; exact g1
      have hval : l[i] = false := by simpa [hil] using g2
      have hpos : 0 < l.count false := Array.count_pos_iff.2 (by rw [← hval]; exact Array.getElem_mem hil)
      have : l.setIfInBounds i true = l.set i true hil := by simp [Array.setIfInBounds, hil]
      rw [this, Array.count_set]
      simp [hval]
      omega
  refine wpIn_region_any hm (main _ _ _ _ ?_ ?_)
  · rw [Array.count_replicate]; split <;> omega
  · have hrep : ∀ j, (Array.replicate all.toArray.size false).getD j false = false := fun j => by
      simp only [Array.getD_eq_getD_getElem?]
      by_cases hj : j < all.toArray.size
      · simp at hj; simp [hj]
      · simp at hj; rw [Array.getElem?_eq_none (by simpa using hj)]; rfl
    refine ⟨by simp [hn], fun i o _ hi => ?_, hr.size, rfl, fun j _ => hrep j, 0, μ, by omega, fun j hj _ => ?_, ?_, by rw [e2], ?_, fun t => ?_⟩
    · have hi : (Array.replicate all.toArray.size false).getD i false = true := hi
      rw [hrep] at hi; cases hi
    · rw [hrep]; simp
    · rw [e2, e3]
      exact hr.inv.grow (le_drew μ w) fun b _ => rfl
    · exact le_drew μ w
    · have : valS D V fr (fun j => (Array.replicate all.toArray.size false).getD j false) c0 t = getF fr t := by
        have := valS_agree (D := D) (V := V) (fr := fr) (S := fun j => (Array.replicate all.toArray.size false).getD j false) (i := 0) (t := t) (n := c0) fun j hj _ => by rw [hrep]; simp
        rw [this, Nat.min_zero]; rfl
      rw [this]
      exact (hr.vals t).mono (le_drew μ w).stays (.refl _)

theorem dops_sound {own : List Nat} {all : List Oper} {is : List IO_} {id : Nat} {Q : Exit → Act → World → Prop} {K : FR → List Ob → List Ob → Prop} {μ : List MI} {w : World} {a : Act} {fr : FR} {ba lo : List Ob} (hc : compOps P N own all 0 all = some is) (hd : drawOk false all is = true) (hm : P.follows .mixedOrders = true) (h : opsV P true is fr ba lo K) (hr : Rel N B T μ w a fr ba lo)
    (hq : ∀ fr' ba' lo' μ' w' a', K fr' ba' lo' → Rel N B T μ' w' a' fr' ba' lo' → Le μ w μ' w' → ba'.length = ba.length → Q .normal a' w') : (Code.region id all.toArray true).wpIn (FW ro) nd P Q a w := by
  obtain ⟨F, B', L, V, e1, e2, e3, hk, hst⟩ := canon all is 0 hc h
  exact any_sound (X := fun _ _ _ => False) hc hd hm e1 e2 e3 all.length (Nat.le_refl _) (fun _ => hk) (fun j o io _ => hst j o io) (fun e => by cases e) (fun e => absurd e (Nat.lt_irrefl _)) (fun _ _ _ _ _ _ e => e.elim) hr hq

/-! ### where readers may come behind writers -/

theorem seen_of {i : IOp} {fr : FR} {ba lo : List Ob} {v : AV} {p : Prop} (he : effect i = 1) (h : opV P true i fr ba lo fun v' _ _ => v' = v ∧ p) : p ∧ Seen P (i, fr, v) ba lo := by
  obtain ⟨v', ⟨rfl, hp⟩, h2⟩ := opV_reader he h
  refine ⟨hp, fun K hk => ?_⟩
  have := h2 [] K (by rw [List.append_nil]; exact hk)
  rwa [List.append_nil] at this

theorem freeK_out {bits : Nat} : ∀ {l : LG} {k : LG → Prop}, freeK bits l k → ∃ l', k l' ∧ (∀ x, x ∈ l' → x ∈ l) ∧ ∀ x, x ∈ l → bits.testBit x.1 = false → x ∈ l'
  | [], k, h => ⟨[], h, fun x hx => hx, fun x hx => by cases hx⟩
  | (n, y) :: r, k, h => by
    replace h : match bits.testBit n with | true => freeK bits r k | false => freeK bits r fun r => k ((n, y) :: r) := h
    cases hb : bits.testBit n with
    | true =>
      rw [hb] at h
      obtain ⟨l', h1, h2, h3⟩ := freeK_out h
      refine ⟨l', h1, fun z hy => List.mem_cons.2 (.inr (h2 z hy)), fun z hy hy2 => ?_⟩
      rcases List.mem_cons.1 hy with rfl | hy
      · rw [hb] at hy2; cases hy2
      · exact h3 z hy hy2
    | false =>
      rw [hb] at h
      obtain ⟨l', h1, h2, h3⟩ := freeK_out h
      refine ⟨(n, y) :: l', h1, fun z hy => ?_, fun z hy hy2 => ?_⟩
      · rcases List.mem_cons.1 hy with rfl | hy
        · exact List.mem_cons.2 (.inl rfl)
        · exact List.mem_cons.2 (.inr (h2 z hy))
      · rcases List.mem_cons.1 hy with rfl | hy
        · exact List.mem_cons.2 (.inl rfl)
        · exact List.mem_cons.2 (.inr (h3 z hy hy2))

theorem lookAgain_out : ∀ (l : LG) {ba lo : List Ob} {K : Prop}, (∀ x, x ∈ l → effect x.2.1 = 1) → lookAgain P l ba lo K → K ∧ ∀ x, x ∈ l → Seen P x.2 ba lo
  | [], ba, lo, K, _, h => ⟨h, fun x hx => by cases hx⟩
  | x :: r, ba, lo, K, he, h => by
    obtain ⟨h1, h2⟩ := seen_of (he x (by simp)) (show opV P true x.2.1 x.2.2.1 ba lo fun v _ _ => v = x.2.2.2 ∧ lookAgain P r ba lo K from h)
    obtain ⟨h3, h4⟩ := lookAgain_out r (fun y hy => he y (by simp [hy])) h1
    refine ⟨h3, fun y hy => ?_⟩
    simp only [List.mem_cons] at hy
    rcases hy with rfl | hy
    · exact h2
    · exact h4 y hy

theorem effect_le (i : IOp) : effect i ≤ 3 := by
  cases i <;> simp only [effect] <;> first | omega | (split <;> omega)

/-- What follows an operation. -/
def nextE1 (P : Program) (o : IO_) (r : List IO_) (bs : List Nat) (idx : Nat) (fr : FR) (K : FR → List Ob → List Ob → Prop) (v : AV) (ba lo : List Ob) (log : LG) : Prop :=
  match o.split with
  | false => putK fr o.dst v fun fr => opsE P r bs idx log fr ba lo K
  | true => match v with
    | .p (.bool b) => splitB b fun b => putK fr o.dst (.p (.bool b)) fun fr => opsE P r bs idx log fr ba lo K
    | _ => False
def nextE (P : Program) (bits : Nat) (o : IO_) (r : List IO_) (bs : List Nat) (idx : Nat) (log : LG) (fr : FR) (K : FR → List Ob → List Ob → Prop) (v : AV) (ba lo : List Ob) : Prop :=
  logS P bits idx o.op fr v log ba lo (nextE1 P o r bs (idx + 1) fr K v ba lo)

theorem nextE1_out {o : IO_} {r : List IO_} {bs : List Nat} {idx : Nat} {log : LG} {K : FR → List Ob → List Ob → Prop} {fr : FR} {v : AV} {ba lo : List Ob} (h : nextE1 P o r bs idx fr K v ba lo log) : opsE P r bs idx log (putF fr o.dst v) ba lo K := by
  unfold nextE1 at h
  split at h
  · rwa [putK_eq] at h
  · split at h
    · have := splitB_out h
      rwa [putK_eq] at this
    · exact h.elim

/-- What is looked at again from here on. -/
theorem nextE_out {bits : Nat} {o : IO_} {r : List IO_} {bs : List Nat} {idx : Nat} {log : LG} {K : FR → List Ob → List Ob → Prop} {fr : FR} {v : AV} {ba lo : List Ob} (hl : ∀ x, x ∈ log → effect x.2.1 = 1) (h : nextE P bits o r bs idx log fr K v ba lo) :
    ∃ log', opsE P r bs (idx + 1) log' (putF fr o.dst v) ba lo K ∧ (effect o.op < 2 → (∀ x, x ∈ log → x ∈ log') ∧ (∀ x, x ∈ log' → x ∈ log ∨ (x = (idx, o.op, fr, v) ∧ effect o.op = 1)) ∧ (effect o.op = 1 → (idx, o.op, fr, v) ∈ log')) ∧
      (2 ≤ effect o.op → (∀ x, x ∈ log' → x ∈ log ∧ Seen P x.2 ba lo) ∧ ∀ x, x ∈ log → bits.testBit x.1 = false → x ∈ log') := by
  unfold nextE logS at h
  split at h
  · rename_i he
    exact ⟨log, nextE1_out h, fun _ => ⟨fun x hx => hx, fun x hx => .inl hx, fun e => by omega⟩, fun e => by omega⟩
  · rename_i he
    exact ⟨_, nextE1_out h, fun _ => ⟨fun x hx => List.mem_cons.2 (.inr hx), fun x hx => by
      rcases List.mem_cons.1 hx with hx | hx
      · exact .inr ⟨hx, he⟩
      · exact .inl hx, fun _ => List.mem_cons.2 (.inl rfl)⟩, fun e => by omega⟩
  · rename_i he0 he1
    obtain ⟨log', h1, h2, h3⟩ := freeK_out h
    obtain ⟨h4, h5⟩ := lookAgain_out log' (fun x hx => hl x (h2 x hx)) h1
    refine ⟨log', nextE1_out h4, fun e => ?_, fun _ => ⟨fun x hx => ⟨h2 x hx, h5 x hx⟩, h3⟩⟩
    exfalso
    have : effect o.op = 0 ∨ effect o.op = 1 := by omega
    rcases this with e | e
    · exact he0 e
    · exact he1 e

theorem Unw.ne {v : AV} {b : Bool} (h : Unw v b) : v ≠ .p (.bool b) := by
  cases h with
  | bool b' => intro e; cases b' <;> cases e
  | skip => intro e; cases e

theorem opsE_cons {o : IO_} {r : List IO_} {bs : List Nat} {idx : Nat} {log : LG} {K : FR → List Ob → List Ob → Prop} {fr : FR} {ba lo : List Ob} (h : opsE P (o :: r) bs idx log fr ba lo K) :
    ((∀ t b, o.guard = some (t, b) → getF fr t = .p (.bool b)) ∧ opV P true o.op fr ba lo (nextE P (bs.headD 0) o r bs.tail idx log fr K)) ∨
    (∃ t b, o.guard = some (t, b) ∧ Unw (getF fr t) b ∧ opsE P r bs.tail (idx + 1) log (putF fr o.dst (.p (.tup []))) ba lo K) := by
  replace h : opsEStep P (bs.headD 0) idx o (opsE P r bs.tail (idx + 1)) log fr ba lo K := h
  unfold opsEStep at h
  split at h
  · rename_i hg
    exact .inl ⟨fun t b e => (by rw [hg] at e; cases e), h⟩
  · rename_i t b hg
    rw [getK_eq] at h
    split at h
    · have e : getF fr t = .p (.bool true) := by assumption
      exact .inl ⟨fun t' b' e' => (by rw [hg] at e'; cases e'; exact e), h⟩
    · have e : getF fr t = .p (.bool false) := by assumption
      exact .inl ⟨fun t' b' e' => (by rw [hg] at e'; cases e'; exact e), h⟩
    · have e : getF fr t = .p (.bool true) := by assumption
      rw [putK_eq] at h
      exact .inr ⟨t, false, hg, by rw [e]; exact .bool true, h⟩
    · have e : getF fr t = .p (.bool false) := by assumption
      rw [putK_eq] at h
      exact .inr ⟨t, true, hg, by rw [e]; exact .bool false, h⟩
    · have e : getF fr t = .p (.tup []) := by assumption
      rw [putK_eq] at h
      exact .inr ⟨t, true, hg, by rw [e]; exact .skip _, h⟩
    · have e : getF fr t = .p (.tup []) := by assumption
      rw [putK_eq] at h
      exact .inr ⟨t, false, hg, by rw [e]; exact .skip _, h⟩
    · exact h.elim

/-- The run in the text's order. -/
theorem canonE {own : List Nat} {all : List Oper} {K : FR → List Ob → List Ob → Prop} : ∀ (l : List Oper) (is : List IO_) (i : Nat), compOps P N own all i l = some is → ∀ {bs : List Nat} {idx : Nat} {log : LG} {fr : FR} {ba lo : List Ob}, (∀ x, x ∈ log → x.1 < idx ∧ effect x.2.1 = 1 ∧ Seen P x.2 ba lo) → opsE P is bs idx log fr ba lo K →
    ∃ (F : Nat → FR) (B' L : Nat → List Ob) (V : Nat → AV), F 0 = fr ∧ B' 0 = ba ∧ L 0 = lo ∧ K (F l.length) (B' l.length) (L l.length) ∧
      (∀ j o io, l[j]? = some o → is[j]? = some io → StepC P o io (F j) (F (j + 1)) (B' j) (L j) (B' (j + 1)) (L (j + 1)) (V j)) ∧
      (∀ x h, x ∈ log → h ≤ l.length → (∀ k, k < h → 2 ≤ effect (is.getD k default).op → (bs.getD k 0).testBit x.1 = false) → Seen P x.2 (B' h) (L h)) ∧
      (∀ j h o io, j < h → h ≤ l.length → l[j]? = some o → is[j]? = some io → effect io.op = 1 → (∀ t b, io.guard = some (t, b) → getF (F j) t = .p (.bool b)) → (∀ k, j < k → k < h → 2 ≤ effect (is.getD k default).op → (bs.getD k 0).testBit (idx + j) = false) → Seen P (io.op, F j, V j) (B' h) (L h))
  | [], is, i, hc, bs, idx, log, fr, ba, lo, hl, h => by
    cases hc
    exact ⟨fun _ => fr, fun _ => ba, fun _ => lo, fun _ => .p .undef, rfl, rfl, rfl, h, fun j o io e => by simp at e, fun x h hx _ _ => (hl x hx).2.2, fun j h o io _ _ e => by simp at e⟩
  | o :: l, is, i, hc, bs, idx, log, fr, ba, lo, hl, h => by
    simp only [compOps] at hc
    split at hc
    · rename_i io ios hio hios
      cases hc
      obtain ⟨c1, c2, c3, c4⟩ := compI_out hio
      have hbs : ∀ k, bs.tail.getD k 0 = bs.getD (k + 1) 0 := fun k => by cases bs <;> simp
      have hb0 : bs.headD 0 = bs.getD 0 0 := by cases bs <;> simp
      have rest : ∀ {v : AV} {ba' lo' : List Ob} {log' : LG}, (∀ x, x ∈ log → (2 ≤ effect io.op → (bs.getD 0 0).testBit x.1 = false) → x ∈ log') → (∀ x, x ∈ log' → x.1 < idx + 1 ∧ effect x.2.1 = 1 ∧ Seen P x.2 ba' lo') → (effect io.op = 1 → (∀ t b, io.guard = some (t, b) → getF fr t = .p (.bool b)) → (idx, io.op, fr, v) ∈ log') → StepC P o io fr (putF fr io.dst v) ba lo ba' lo' v → opsE P ios bs.tail (idx + 1) log' (putF fr io.dst v) ba' lo' K → ∃ (F : Nat → FR) (B' L : Nat → List Ob) (V : Nat → AV), F 0 = fr ∧ B' 0 = ba ∧ L 0 = lo ∧ K (F (o :: l).length) (B' (o :: l).length) (L (o :: l).length) ∧
          (∀ j o' io', (o :: l)[j]? = some o' → (io :: ios)[j]? = some io' → StepC P o' io' (F j) (F (j + 1)) (B' j) (L j) (B' (j + 1)) (L (j + 1)) (V j)) ∧
          (∀ x h, x ∈ log → h ≤ (o :: l).length → (∀ k, k < h → 2 ≤ effect ((io :: ios).getD k default).op → (bs.getD k 0).testBit x.1 = false) → Seen P x.2 (B' h) (L h)) ∧
          (∀ j h o' io', j < h → h ≤ (o :: l).length → (o :: l)[j]? = some o' → (io :: ios)[j]? = some io' → effect io'.op = 1 → (∀ t b, io'.guard = some (t, b) → getF (F j) t = .p (.bool b)) → (∀ k, j < k → k < h → 2 ≤ effect ((io :: ios).getD k default).op → (bs.getD k 0).testBit (idx + j) = false) → Seen P (io'.op, F j, V j) (B' h) (L h)) := fun {v ba' lo' log'} hsub hl' hin hs h => by
        obtain ⟨F, B', L, V, e1, e2, e3, hk, hst, hs1, hs2⟩ := canonE l ios (i + 1) hios hl' h
        refine ⟨fun j => match j with | 0 => fr | j + 1 => F j, fun j => match j with | 0 => ba | j + 1 => B' j, fun j => match j with | 0 => lo | j + 1 => L j, fun j => match j with | 0 => v | j + 1 => V j, rfl, rfl, rfl, hk, fun j o' io' h1 h2 => ?_, fun x h hx hh hfree => ?_, fun j h o' io' hjh hh h1 h2 h3 h4 hfree => ?_⟩
        · cases j with
          | zero =>
            simp at h1 h2
            subst h1; subst h2
            show StepC P o io fr (F 0) ba lo (B' 0) (L 0) v
            rw [e1, e2, e3]; exact hs
          | succ j => exact hst j o' io' (by simpa using h1) (by simpa using h2)
        · cases h with
          | zero => exact (hl x hx).2.2
          | succ h =>
            refine hs1 x h (hsub x hx fun he => hfree 0 (by omega) (by simpa using he)) (by simpa using hh) fun k hk he => ?_
            rw [hbs]
            exact hfree (k + 1) (by omega) (by simpa using he)
        · cases h with
          | zero => omega
          | succ h =>
            cases j with
            | zero =>
              simp at h1 h2
              subst h1; subst h2
              refine hs1 _ h (hin h3 h4) (by simpa using hh) fun k hk he => ?_
              rw [hbs]
              have := hfree (k + 1) (by omega) (by omega) (by simpa using he)
              simpa using this
            | succ j =>
              refine hs2 j h o' io' (by omega) (by simpa using hh) (by simpa using h1) (by simpa using h2) h3 h4 fun k hjk hk he => ?_
              rw [hbs]
              have := hfree (k + 1) (by omega) (by omega) (by simpa using he)
              have e : idx + 1 + j = idx + (j + 1) := by omega
              rw [e]; exact this
      rcases opsE_cons h with ⟨hg, h⟩ | ⟨t, b, hg, hv, h⟩
      · obtain ⟨v, ba', lo', hk, s1, s2, s3, s4, s5, s6⟩ := step_of c2 h
        obtain ⟨log', k1, k2, k3⟩ := nextE_out (fun x hx => (hl x hx).2.1) hk
        refine rest (log' := log') (fun x hx hfree => ?_) (fun x hx => ?_) (fun e _ => ?_) ⟨rfl, s1, s2, .inr ⟨hg, s3, s4, s5⟩⟩ k1
        · rcases Nat.lt_or_ge (effect io.op) 2 with he | he
          · exact (k2 he).1 x hx
          · exact (k3 he).2 x hx (by rw [hb0]; exact hfree he)
        · rcases Nat.lt_or_ge (effect io.op) 2 with he | he
          · obtain ⟨g1, g2⟩ := s1 he
            rcases (k2 he).2.1 x hx with hx | ⟨rfl, e1⟩
            · obtain ⟨q1, q2, q3⟩ := hl x hx
              exact ⟨by omega, q2, by rw [g1, g2]; exact q3⟩
            · exact ⟨by simp, e1, by rw [g1, g2]; exact s6 e1⟩
          · obtain ⟨q1, q2⟩ := (k3 he).1 x hx
            exact ⟨by have := (hl x q1).1; omega, (hl x q1).2.1, q2⟩
        · exact (k2 (by omega)).2.2 e
      · exact rest (log' := log) (fun x hx _ => hx) (fun x hx => by have := hl x hx; exact ⟨by omega, this.2.1, this.2.2⟩) (fun e hg' => by
          exact absurd (hg' t b hg) hv.ne) ⟨rfl, fun _ => ⟨rfl, rfl⟩, fun _ => ⟨rfl, [], by simp⟩, .inl ⟨t, b, hg, hv, rfl, rfl, rfl⟩⟩ h
    · cases hc

/-- What follows an operation. -/
def nextQ1 (P : Program) (o : IO_) (r : List IO_) (bs : List Nat) (idx : Nat) (fr : FR) (K : FR → List Ob → List Ob → Prop) (X : XV) (v : AV) (ba lo : List Ob) (log : LG) : Prop :=
  match o.split with
  | false => putK fr o.dst v fun fr => opsQ P r bs idx log fr ba lo K X
  | true => match v with
    | .p (.bool b) => splitB b fun b => putK fr o.dst (.p (.bool b)) fun fr => opsQ P r bs idx log fr ba lo K X
    | _ => False
def nextQ (P : Program) (bits : Nat) (o : IO_) (r : List IO_) (bs : List Nat) (idx : Nat) (log : LG) (fr : FR) (K : FR → List Ob → List Ob → Prop) (X : XV) (v : AV) (ba lo : List Ob) : Prop :=
  logS P bits idx o.op fr v log ba lo (nextQ1 P o r bs (idx + 1) fr K X v ba lo)

theorem nextQ1_out {o : IO_} {r : List IO_} {bs : List Nat} {idx : Nat} {log : LG} {K : FR → List Ob → List Ob → Prop} {X : XV} {fr : FR} {v : AV} {ba lo : List Ob} (h : nextQ1 P o r bs idx fr K X v ba lo log) : opsQ P r bs idx log (putF fr o.dst v) ba lo K X := by
  unfold nextQ1 at h
  split at h
  · rwa [putK_eq] at h
  · split at h
    · have := splitB_out h
      rwa [putK_eq] at this
    · exact h.elim

/-- What is looked at again from here on. -/
theorem nextQ_out {bits : Nat} {o : IO_} {r : List IO_} {bs : List Nat} {idx : Nat} {log : LG} {K : FR → List Ob → List Ob → Prop} {X : XV} {fr : FR} {v : AV} {ba lo : List Ob} (hl : ∀ x, x ∈ log → effect x.2.1 = 1) (h : nextQ P bits o r bs idx log fr K X v ba lo) :
    ∃ log', opsQ P r bs (idx + 1) log' (putF fr o.dst v) ba lo K X ∧ (effect o.op < 2 → (∀ x, x ∈ log → x ∈ log') ∧ (∀ x, x ∈ log' → x ∈ log ∨ (x = (idx, o.op, fr, v) ∧ effect o.op = 1)) ∧ (effect o.op = 1 → (idx, o.op, fr, v) ∈ log')) ∧
      (2 ≤ effect o.op → (∀ x, x ∈ log' → x ∈ log ∧ Seen P x.2 ba lo) ∧ ∀ x, x ∈ log → bits.testBit x.1 = false → x ∈ log') := by
  unfold nextQ logS at h
  split at h
  · rename_i he
    exact ⟨log, nextQ1_out h, fun _ => ⟨fun x hx => hx, fun x hx => .inl hx, fun e => by omega⟩, fun e => by omega⟩
  · rename_i he
    exact ⟨_, nextQ1_out h, fun _ => ⟨fun x hx => List.mem_cons.2 (.inr hx), fun x hx => by
      rcases List.mem_cons.1 hx with hx | hx
      · exact .inr ⟨hx, he⟩
      · exact .inl hx, fun _ => List.mem_cons.2 (.inl rfl)⟩, fun e => by omega⟩
  · rename_i he0 he1
    obtain ⟨log', h1, h2, h3⟩ := freeK_out h
    obtain ⟨h4, h5⟩ := lookAgain_out log' (fun x hx => hl x (h2 x hx)) h1
    refine ⟨log', nextQ1_out h4, fun e => ?_, fun _ => ⟨fun x hx => ⟨h2 x hx, h5 x hx⟩, h3⟩⟩
    exfalso
    have : effect o.op = 0 ∨ effect o.op = 1 := by omega
    rcases this with e | e
    · exact he0 e
    · exact he1 e

theorem opsQ_cons {o : IO_} {r : List IO_} {bs : List Nat} {idx : Nat} {log : LG} {K : FR → List Ob → List Ob → Prop} {X : XV} {fr : FR} {ba lo : List Ob} (h : opsQ P (o :: r) bs idx log fr ba lo K X) :
    (o.guard = none ∧ opVQ P o.op fr ba lo (nextQ P (bs.headD 0) o r bs.tail idx log fr K X) X) ∨
    ((∀ t b, o.guard = some (t, b) → getF fr t = .p (.bool b)) ∧ opV P true o.op fr ba lo (nextQ P (bs.headD 0) o r bs.tail idx log fr K X)) ∨
    (∃ t b, o.guard = some (t, b) ∧ Unw (getF fr t) b ∧ opsQ P r bs.tail (idx + 1) log (putF fr o.dst (.p (.tup []))) ba lo K X) := by
  replace h : opsQStep P (bs.headD 0) idx o (opsQ P r bs.tail (idx + 1)) log fr ba lo K X := h
  unfold opsQStep at h
  split at h
  · rename_i hg
    exact .inl ⟨hg, h⟩
  · rename_i t b hg
    rw [getK_eq] at h
    split at h
    · have e : getF fr t = .p (.bool true) := by assumption
      exact .inr (.inl ⟨fun t' b' e' => (by rw [hg] at e'; cases e'; exact e), h⟩)
    · have e : getF fr t = .p (.bool false) := by assumption
      exact .inr (.inl ⟨fun t' b' e' => (by rw [hg] at e'; cases e'; exact e), h⟩)
    · have e : getF fr t = .p (.bool true) := by assumption
      rw [putK_eq] at h
      exact .inr (.inr ⟨t, false, hg, by rw [e]; exact .bool true, h⟩)
    · have e : getF fr t = .p (.bool false) := by assumption
      rw [putK_eq] at h
      exact .inr (.inr ⟨t, true, hg, by rw [e]; exact .bool false, h⟩)
    · have e : getF fr t = .p (.tup []) := by assumption
      rw [putK_eq] at h
      exact .inr (.inr ⟨t, true, hg, by rw [e]; exact .skip _, h⟩)
    · have e : getF fr t = .p (.tup []) := by assumption
      rw [putK_eq] at h
      exact .inr (.inr ⟨t, false, hg, by rw [e]; exact .skip _, h⟩)
    · exact h.elim
theorem opVQ_plain {i : IOp} (hn : isP i = false) {fr : FR} {ba lo : List Ob} {K : AV → List Ob → List Ob → Prop} {X : XV} (h : opVQ P i fr ba lo K X) : opV P true i fr ba lo K := by
  cases i <;> first | exact h | cases hn
theorem isP_effect {i : IOp} (hn : isP i = true) : effect i = 2 := by cases i <;> first | rfl | cases hn
theorem callE_of {f : Nat} {as : List AV} {own : List Nat} {o : Oper} {i : IOp} {fr : FR} {ba lo : List Ob} {K : AV → List Ob → List Ob → Prop} {X : XV} (hc : compO P own o = some i) (hp : isP i = true)
    (to : ∀ (K' : AV → List Ob → List Ob → Prop) (X' : XV), CallPV P f as ba lo K' X' → opVP P i fr ba lo K' X') (h : CallPE P f as ba lo K X) : (∃ v ba' lo', K v ba' lo' ∧ StepAt P o v fr ba lo ba' lo') ∨ StepD P o fr ba lo X := by
  rcases h.out with ⟨r, ba', lo', h1, hk⟩ | ⟨ch, ba', lo', h1, hx⟩
  · refine .inl ⟨r, ba', lo', hk, fun ro nd μ w a next Q hi ho hnext => ?_⟩
    refine call_opP hc hp (to _ _ h1) hi ho (fun v r' μ' w' b l g1 g2 g3 g4 g5 => ?_) fun _ _ _ _ _ _ _ _ e => e.elim
    obtain ⟨rfl, rfl, rfl⟩ := g5
    exact hnext v μ' w' g1 g2 g3 g4
  · refine .inr fun ro nd μ w a next Q hi ho hpan => ?_
    refine call_opP hc hp (to _ _ h1) hi ho (fun _ _ _ _ _ _ _ _ _ _ e => e.elim) fun ch' μ' w' b l g2 g3 g4 g5 => ?_
    obtain ⟨rfl, rfl, rfl⟩ := g5
    exact hpan _ μ' w' _ _ hx g2 g3 g4
theorem callQ_out {own : List Nat} {o : Oper} {i : IOp} {fr : FR} {ba lo : List Ob} {K : AV → List Ob → List Ob → Prop} {X : XV} (hc : compO P own o = some i) (hp : isP i = true) (h : opVQ P i fr ba lo K X) :
    (∃ v ba' lo', K v ba' lo' ∧ StepAt P o v fr ba lo ba' lo') ∨ StepD P o fr ba lo X := by
  cases i with
  | callP f args =>
    simp only [opVQ, evsK_eq] at h
    exact callE_of hc hp (fun K' X' h => by simp only [opVP, evsK_eq]; exact h) h
  | callvP x args =>
    simp only [opVQ, evK_eq, evsK_eq] at h
    split at h
    · rename_i f e1
      obtain ⟨hen, h⟩ := h
      exact callE_of hc hp (fun K' X' h => by simp only [opVP, evK_eq, evsK_eq, e1]; exact ⟨hen, h⟩) h
    · rename_i f first cap e1
      obtain ⟨hen, h⟩ := h
      exact callE_of hc hp (fun K' X' h => by simp only [opVP, evK_eq, evsK_eq, e1]; exact ⟨hen, h⟩) h
    · exact h.elim
  | throw x =>
    simp only [opVQ, evK_eq] at h
    refine .inr fun ro nd μ w a next Q hi ho hpan => ?_
    refine call_opP (K := fun _ _ _ => False) (X := X) hc hp (by simp only [opVP, evK_eq]; exact h) hi ho (fun _ _ _ _ _ _ _ _ _ _ e => e.elim) fun ch μ' w' b l g2 g3 g4 g5 => hpan ch μ' w' b l g5 g2 g3 g4
  | _ => cases hp

/-- The run in the text's order. -/
theorem canonQ {own : List Nat} {all : List Oper} {K : FR → List Ob → List Ob → Prop} {X : XV} : ∀ (l : List Oper) (is : List IO_) (i : Nat), compOps P N own all i l = some is → ∀ {bs : List Nat} {idx : Nat} {log : LG} {fr : FR} {ba lo : List Ob}, (∀ x, x ∈ log → x.1 < idx ∧ effect x.2.1 = 1 ∧ Seen P x.2 ba lo) → opsQ P is bs idx log fr ba lo K X →
    ∃ (F : Nat → FR) (B' L : Nat → List Ob) (V : Nat → AV) (c0 : Nat), c0 ≤ l.length ∧ F 0 = fr ∧ B' 0 = ba ∧ L 0 = lo ∧ (c0 = l.length → K (F c0) (B' c0) (L c0)) ∧ (c0 < l.length → ∀ o io, l[c0]? = some o → is[c0]? = some io → io.guard = none ∧ isP io.op = true ∧ StepD P o (F c0) (B' c0) (L c0) X) ∧
      (∀ j o io, j < c0 → l[j]? = some o → is[j]? = some io → StepC P o io (F j) (F (j + 1)) (B' j) (L j) (B' (j + 1)) (L (j + 1)) (V j)) ∧
      (∀ x h, x ∈ log → h ≤ c0 → (∀ k, k < h → 2 ≤ effect (is.getD k default).op → (bs.getD k 0).testBit x.1 = false) → Seen P x.2 (B' h) (L h)) ∧
      (∀ j h o io, j < h → h ≤ c0 → l[j]? = some o → is[j]? = some io → effect io.op = 1 → (∀ t b, io.guard = some (t, b) → getF (F j) t = .p (.bool b)) → (∀ k, j < k → k < h → 2 ≤ effect (is.getD k default).op → (bs.getD k 0).testBit (idx + j) = false) → Seen P (io.op, F j, V j) (B' h) (L h))
  | [], is, i, hc, bs, idx, log, fr, ba, lo, hl, h => by
    cases hc
    exact ⟨fun _ => fr, fun _ => ba, fun _ => lo, fun _ => .p .undef, 0, Nat.le_refl _, rfl, rfl, rfl, fun _ => h, fun e => absurd e (Nat.lt_irrefl _), fun j o io e => by omega, fun x h hx _ _ => (hl x hx).2.2, fun j h o io e1 e2 => by omega⟩
  | o :: l, is, i, hc, bs, idx, log, fr, ba, lo, hl, h => by
    simp only [compOps] at hc
    split at hc
    · rename_i io ios hio hios
      cases hc
      obtain ⟨c1, c2, c3, c4⟩ := compI_out hio
      have hbs : ∀ k, bs.tail.getD k 0 = bs.getD (k + 1) 0 := fun k => by cases bs <;> simp
      have hb0 : bs.headD 0 = bs.getD 0 0 := by cases bs <;> simp
      have rest : ∀ {v : AV} {ba' lo' : List Ob} {log' : LG}, (∀ x, x ∈ log → (2 ≤ effect io.op → (bs.getD 0 0).testBit x.1 = false) → x ∈ log') → (∀ x, x ∈ log' → x.1 < idx + 1 ∧ effect x.2.1 = 1 ∧ Seen P x.2 ba' lo') → (effect io.op = 1 → (∀ t b, io.guard = some (t, b) → getF fr t = .p (.bool b)) → (idx, io.op, fr, v) ∈ log') → StepC P o io fr (putF fr io.dst v) ba lo ba' lo' v → opsQ P ios bs.tail (idx + 1) log' (putF fr io.dst v) ba' lo' K X → ∃ (F : Nat → FR) (B' L : Nat → List Ob) (V : Nat → AV) (c0 : Nat), c0 ≤ (o :: l).length ∧ F 0 = fr ∧ B' 0 = ba ∧ L 0 = lo ∧ (c0 = (o :: l).length → K (F c0) (B' c0) (L c0)) ∧ (c0 < (o :: l).length → ∀ o' io', (o :: l)[c0]? = some o' → (io :: ios)[c0]? = some io' → io'.guard = none ∧ isP io'.op = true ∧ StepD P o' (F c0) (B' c0) (L c0) X) ∧
          (∀ j o' io', j < c0 → (o :: l)[j]? = some o' → (io :: ios)[j]? = some io' → StepC P o' io' (F j) (F (j + 1)) (B' j) (L j) (B' (j + 1)) (L (j + 1)) (V j)) ∧
          (∀ x h, x ∈ log → h ≤ c0 → (∀ k, k < h → 2 ≤ effect ((io :: ios).getD k default).op → (bs.getD k 0).testBit x.1 = false) → Seen P x.2 (B' h) (L h)) ∧
          (∀ j h o' io', j < h → h ≤ c0 → (o :: l)[j]? = some o' → (io :: ios)[j]? = some io' → effect io'.op = 1 → (∀ t b, io'.guard = some (t, b) → getF (F j) t = .p (.bool b)) → (∀ k, j < k → k < h → 2 ≤ effect ((io :: ios).getD k default).op → (bs.getD k 0).testBit (idx + j) = false) → Seen P (io'.op, F j, V j) (B' h) (L h)) := fun {v ba' lo' log'} hsub hl' hin hs h => by
        obtain ⟨F, B', L, V, c0, hcl, e1, e2, e3, hk, hdd, hst, hs1, hs2⟩ := canonQ l ios (i + 1) hios hl' h
        refine ⟨fun j => match j with | 0 => fr | j + 1 => F j, fun j => match j with | 0 => ba | j + 1 => B' j, fun j => match j with | 0 => lo | j + 1 => L j, fun j => match j with | 0 => v | j + 1 => V j, c0 + 1, by simp; omega, rfl, rfl, rfl, fun e => hk (by simpa using e), fun e o' io' q1 q2 => hdd (by simpa using e) o' io' (by simpa using q1) (by simpa using q2), fun j o' io' h0 h1 h2 => ?_, fun x h hx hh hfree => ?_, fun j h o' io' hjh hh h1 h2 h3 h4 hfree => ?_⟩
        · cases j with
          | zero =>
            simp at h1 h2
            subst h1; subst h2
            show StepC P o io fr (F 0) ba lo (B' 0) (L 0) v
            rw [e1, e2, e3]; exact hs
          | succ j => exact hst j o' io' (by omega) (by simpa using h1) (by simpa using h2)
        · cases h with
          | zero => exact (hl x hx).2.2
          | succ h =>
            refine hs1 x h (hsub x hx fun he => hfree 0 (by omega) (by simpa using he)) (by omega) fun k hk he => ?_
            rw [hbs]
            exact hfree (k + 1) (by omega) (by simpa using he)
        · cases h with
          | zero => omega
          | succ h =>
            cases j with
            | zero =>
              simp at h1 h2
              subst h1; subst h2
              refine hs1 _ h (hin h3 h4) (by omega) fun k hk he => ?_
              rw [hbs]
              have := hfree (k + 1) (by omega) (by omega) (by simpa using he)
              simpa using this
            | succ j =>
              refine hs2 j h o' io' (by omega) (by omega) (by simpa using h1) (by simpa using h2) h3 h4 fun k hjk hk he => ?_
              rw [hbs]
              have := hfree (k + 1) (by omega) (by omega) (by simpa using he)
              have e : idx + 1 + j = idx + (j + 1) := by omega
              rw [e]; exact this
      have three : ((∀ t b, io.guard = some (t, b) → getF fr t = .p (.bool b)) ∧ opV P true io.op fr ba lo (nextQ P (bs.headD 0) io ios bs.tail idx log fr K X)) ∨ (io.guard = none ∧ isP io.op = true ∧ opVQ P io.op fr ba lo (nextQ P (bs.headD 0) io ios bs.tail idx log fr K X) X) ∨
          (∃ t b, io.guard = some (t, b) ∧ Unw (getF fr t) b ∧ opsQ P ios bs.tail (idx + 1) log (putF fr io.dst (.p (.tup []))) ba lo K X) := by
        rcases opsQ_cons h with ⟨hg, h⟩ | ⟨hg, h⟩ | h
        · cases hp : isP io.op with
          | false => exact .inl ⟨fun t b e => (by rw [hg] at e; cases e), opVQ_plain hp h⟩
          | true => exact .inr (.inl ⟨hg, rfl, h⟩)
        · exact .inl ⟨hg, h⟩
        · exact .inr (.inr h)
      rcases three with ⟨hg, h⟩ | ⟨hg, hp, h⟩ | ⟨t, b, hg, hv, h⟩
      · obtain ⟨v, ba', lo', hk, s1, s2, s3, s4, s5, s6⟩ := step_of c2 h
        obtain ⟨log', k1, k2, k3⟩ := nextQ_out (fun x hx => (hl x hx).2.1) hk
        refine rest (log' := log') (fun x hx hfree => ?_) (fun x hx => ?_) (fun e _ => ?_) ⟨rfl, s1, s2, .inr ⟨hg, s3, s4, s5⟩⟩ k1
        · rcases Nat.lt_or_ge (effect io.op) 2 with he | he
          · exact (k2 he).1 x hx
          · exact (k3 he).2 x hx (by rw [hb0]; exact hfree he)
        · rcases Nat.lt_or_ge (effect io.op) 2 with he | he
          · obtain ⟨g1, g2⟩ := s1 he
            rcases (k2 he).2.1 x hx with hx | ⟨rfl, e1⟩
            · obtain ⟨q1, q2, q3⟩ := hl x hx
              exact ⟨by omega, q2, by rw [g1, g2]; exact q3⟩
            · exact ⟨by simp, e1, by rw [g1, g2]; exact s6 e1⟩
          · obtain ⟨q1, q2⟩ := (k3 he).1 x hx
            exact ⟨by have := (hl x q1).1; omega, (hl x q1).2.1, q2⟩
        · exact (k2 (by omega)).2.2 e
      · have he2 := isP_effect hp
        rcases callQ_out c2 hp h with ⟨v, ba', lo', hk, hs⟩ | hs
        · obtain ⟨log', k1, k2, k3⟩ := nextQ_out (fun x hx => (hl x hx).2.1) hk
          refine rest (log' := log') (fun x hx hfree => (k3 (by omega)).2 x hx (by rw [hb0]; exact hfree (by omega))) (fun x hx => ?_) (fun e _ => by omega) ⟨rfl, fun e => by omega, fun e => by omega, .inr ⟨fun t b e => (by rw [hg] at e; cases e), hs, fun e => by omega, fun e => by omega⟩⟩ k1
          obtain ⟨q1, q2⟩ := (k3 (by omega)).1 x hx
          exact ⟨by have := (hl x q1).1; omega, (hl x q1).2.1, q2⟩
        · exact ⟨fun _ => fr, fun _ => ba, fun _ => lo, fun _ => .p .undef, 0, Nat.zero_le _, rfl, rfl, rfl, fun e => by simp at e, fun _ o' io' q1 q2 => by simp at q1 q2; subst q1; subst q2; exact ⟨hg, hp, hs⟩, fun j o' io' e => by omega, fun x h hx hh _ => by
            have : h = 0 := by omega
            subst this
            exact (hl x hx).2.2, fun j h o' io' e1 e2 => by omega⟩
      · exact rest (log' := log) (fun x hx _ => hx) (fun x hx => by have := hl x hx; exact ⟨by omega, this.2.1, this.2.2⟩) (fun e hg' => by
          exact absurd (hg' t b hg) hv.ne) ⟨rfl, fun _ => ⟨rfl, rfl⟩, fun _ => ⟨rfl, [], by simp⟩, .inl ⟨t, b, hg, hv, rfl, rfl, rfl⟩⟩ h
    · cases hc

theorem qops_sound {own : List Nat} {all : List Oper} {is : List IO_} {id : Nat} {Q : Exit → Act → World → Prop} {K : FR → List Ob → List Ob → Prop} {X : XV} {μ : List MI} {w : World} {a : Act} {fr : FR} {ba lo : List Ob} (hc : compOps P N own all 0 all = some is) (hd : drawOkP all is = true) (hm : P.follows .mixedOrders = true) (h : opsQ P is (befores all) 0 [] fr ba lo K X) (hr : Rel N B T μ w a fr ba lo)
    (hq : ∀ fr' ba' lo' μ' w' a', K fr' ba' lo' → Rel N B T μ' w' a' fr' ba' lo' → Le μ w μ' w' → ba'.length = ba.length → Q .normal a' w')
    (hqx : ∀ ch ba' lo' μ' w' a', X ch ba' lo' → Rel N B T μ' w' a' [] ba' lo' → Le μ w μ' w' → ba'.length = ba.length → Q (.panic ch) a' w') : (Code.region id all.toArray true).wpIn (FW ro) nd P Q a w := by
  simp only [drawOkP, Bool.and_eq_true] at hd
  obtain ⟨⟨hd1, hd2⟩, hd3⟩ := hd
  obtain ⟨F, B', L, V, c0, hcl, e1, e2, e3, hk, hdd, hst, _, hs⟩ := canonQ all is 0 hc (log := []) (fun x hx => by cases hx) h
  refine any_sound hc hd1 hm e1 e2 e3 c0 hcl hk hst (fun _ j h o io hj hh h1 h2 h3 h4 h5 => ?_) (fun hlt => ⟨fun j hj1 hj2 => ?_, fun o io q1 q2 => ?_⟩) hqx hr hq
  · obtain ⟨_, hci⟩ := compOps_get all is 0 hc
    have hio := hci j o io h1 h2
    obtain ⟨_, c2, _, _⟩ := compI_out hio
    exact stepAt_of c2 (hs j h o io hj hh h1 h2 h3 h4 (fun k h6 h7 h8 => by rw [Nat.zero_add]; exact h5 k h6 h7 h8) _ ⟨rfl, rfl, rfl⟩)
  · rw [List.all_eq_true] at hd2
    have h1 := hd2 j (List.mem_range.2 hj2)
    rw [List.all_eq_true] at h1
    have h2 := h1 c0 (List.mem_range.2 hj1)
    have hlen := (compOps_get all is 0 hc).1
    have h3 : is[c0]? = some is[c0] := List.getElem?_eq_getElem (by omega)
    obtain ⟨_, d2, _⟩ := hdd hlt _ _ (List.getElem?_eq_getElem hlt) h3
    have h4 : is.getD c0 default = is[c0] := by rw [List.getD_eq_getElem?_getD, h3]; rfl
    rw [h4, d2] at h2
    simpa using h2
  · obtain ⟨d1, d2, d3⟩ := hdd hlt o io q1 q2
    exact ⟨d1, by have := isP_effect d2; omega, d3⟩

theorem eops_sound {own : List Nat} {all : List Oper} {is : List IO_} {id : Nat} {Q : Exit → Act → World → Prop} {K : FR → List Ob → List Ob → Prop} {μ : List MI} {w : World} {a : Act} {fr : FR} {ba lo : List Ob} (hc : compOps P N own all 0 all = some is) (hd : drawOk true all is = true) (hm : P.follows .mixedOrders = true) (h : opsE P is (befores all) 0 [] fr ba lo K) (hr : Rel N B T μ w a fr ba lo)
    (hq : ∀ fr' ba' lo' μ' w' a', K fr' ba' lo' → Rel N B T μ' w' a' fr' ba' lo' → Le μ w μ' w' → ba'.length = ba.length → Q .normal a' w') : (Code.region id all.toArray true).wpIn (FW ro) nd P Q a w := by
  obtain ⟨F, B', L, V, e1, e2, e3, hk, hst, _, hs⟩ := canonE all is 0 hc (log := []) (fun x hx => by cases hx) h
  refine any_sound (X := fun _ _ _ => False) hc hd hm e1 e2 e3 all.length (Nat.le_refl _) (fun _ => hk) (fun j o io _ => hst j o io) (fun _ j h o io hj hh h1 h2 h3 h4 h5 => ?_) (fun e => absurd e (Nat.lt_irrefl _)) (fun _ _ _ _ _ _ e => e.elim) hr hq
  obtain ⟨_, hci⟩ := compOps_get all is 0 hc
  have hio := hci j o io h1 h2
  obtain ⟨_, c2, _, _⟩ := compI_out hio
  exact stepAt_of c2 (hs j h o io hj hh h1 h2 h3 h4 (fun k h6 h7 h8 => by rw [Nat.zero_add]; exact h5 k h6 h7 h8) _ ⟨rfl, rfl, rfl⟩)

end
end Go.Proofs.Ytemfnlidinnniaa.AD

namespace Go.Proofs.Ytemfnlidinnniaa.AD
set_option linter.unusedVariables false
set_option linter.unusedSimpArgs false

theorem stepR_scope {P : Program} {b : Frame} {a : Act} {k : List Item} {cs : List Frame} {w : World} {c : Code} : step P (lone (b.atR a (.code (.scope c) :: k)) cs w) = .next (lone (b.atR a (.code c :: .inScope c :: k)) cs w) :=
  step_lone_go (by simp [stepG, stepG.exec, Frame.atR])
theorem stepR_inScope {P : Program} {b : Frame} {a : Act} {k : List Item} {cs : List Frame} {w : World} {c : Code} : step P (lone (b.atR a (.inScope c :: k)) cs w) = .next (lone (b.atR a k) cs w) :=
  step_lone_go (by simp [stepG, stepG.exec, Frame.atR])

/-- At a loop's head, in a round. -/
def inLoop (F : Fence) (n : Nat) (P : Program) (c : Code) (Q : Exit → Act → World → Prop) (a : Act) (w : World) : Prop :=
  ∀ (b : Frame) (k : List Item) (cs : List Frame), b.roundOf = F.round → F.fn b.fn → F.room (cs.length + 1 + n) → ∃ e a' w', Q e a' w' ∧ ArrivesIn (Machine.fenced P F) P (lone (b.atR a (.code c :: .inLoop c :: k)) cs w) b k cs e a' w'

theorem in_round {F : Fence} {n : Nat} {P : Program} {c : Code} {Q : Exit → Act → World → Prop} {a : Act} {w : World} (h : c.wpIn F n P (Exit.then (inLoop F n P c Q) Q) a w) : inLoop F n P c Q a w := by
  intro b k cs hro hb hr
  obtain ⟨e, a₁, w₁, hq, harr⟩ := h b (.inLoop c :: k) cs hro hb hr
  cases e with
  | normal =>
    obtain ⟨e₂, a₂, w₂, hq₂, harr₂⟩ := hq b k cs hro hb hr
    exact ⟨e₂, a₂, w₂, hq₂, .of_steps (StepsIn.trans harr (.one (fenced_calm hb hr rfl) stepR_inLoop)) harr₂⟩
  | exit id => exact ⟨_, a₁, w₁, hq, .pass (x := .inLoop c) rfl (fun _ _ => .inl (by simp)) harr⟩
  | goto l => exact ⟨_, a₁, w₁, hq, .pass (x := .inLoop c) rfl (fun _ _ => .inl (by simp)) harr⟩
  | ret => exact ⟨_, a₁, w₁, hq, .pass (x := .inLoop c) rfl (fun _ _ => .inl (by simp)) harr⟩
  | panic ch => exact ⟨_, a₁, w₁, hq, .pass (x := .inLoop c) rfl (fun _ _ => .inl (by simp)) harr⟩
  | outgrown => exact ⟨_, a₁, w₁, hq, .pass (x := .inLoop c) rfl (fun _ _ => .inl (by simp)) harr⟩

theorem wp_of_in {F : Fence} {n : Nat} {P : Program} {c : Code} {Q : Exit → Act → World → Prop} {a : Act} {w : World} (h : inLoop F n P c Q a w) : (Code.loop c).wpIn F n P Q a w := by
  intro b k cs hro hb hr
  obtain ⟨e, a', w', hq, harr⟩ := h b k cs hro hb hr
  exact ⟨e, a', w', hq, .of_steps (.one (fenced_calm hb hr rfl) stepR_loop) harr⟩

theorem inLoop_mono {F : Fence} {n : Nat} {P : Program} {c : Code} {Q Q' : Exit → Act → World → Prop} {a : Act} {w : World} (h : inLoop F n P c Q a w) (k : ∀ e a w, Q e a w → Q' e a w) : inLoop F n P c Q' a w := by
  intro b k' cs hro hb hr
  obtain ⟨e, a', w', hq, harr⟩ := h b k' cs hro hb hr
  exact ⟨e, a', w', k _ _ _ hq, harr⟩

/-! #### pieces with labels -/
/-- At a label. -/
def ScopeAt (F : Fence) (n : Nat) (P : Program) (c : Code) (l : Nat) (Q : Exit → Act → World → Prop) (a : Act) (w : World) : Prop :=
  ∃ rest, findLabel c l = some rest ∧ ∀ (b : Frame) (k : List Item) (cs : List Frame), b.roundOf = F.round → F.fn b.fn → F.room (cs.length + 1 + n) → ∃ e a' w', Q e a' w' ∧ ArrivesIn (Machine.fenced P F) P (lone (b.atR a (.code rest :: .inScope c :: k)) cs w) b k cs e a' w'

def Exit.lab (F : Fence) (n : Nat) (P : Program) (c : Code) (Q : Exit → Act → World → Prop) : Exit → Act → World → Prop
  | .goto l, a, w => ScopeAt F n P c l Q a w
  | e, a, w => Q e a w

theorem ScopeAt.mono {F : Fence} {n : Nat} {P : Program} {c : Code} {l : Nat} {Q Q' : Exit → Act → World → Prop} {a : Act} {w : World} (h : ScopeAt F n P c l Q a w) (k : ∀ e a w, Q e a w → Q' e a w) : ScopeAt F n P c l Q' a w := by
  obtain ⟨rest, h1, h2⟩ := h
  refine ⟨rest, h1, fun b k' cs hro hb hr => ?_⟩
  obtain ⟨e, a', w', hq, harr⟩ := h2 b k' cs hro hb hr
  exact ⟨e, a', w', k _ _ _ hq, harr⟩

theorem lab_arrives {F : Fence} {n : Nat} {P : Program} {c : Code} {Q : Exit → Act → World → Prop} {m : Machine} {b : Frame} {k : List Item} {cs : List Frame} {e : Exit} {a₁ : Act} {w₁ : World} (hro : b.roundOf = F.round) (hb : F.fn b.fn) (hr : F.room (cs.length + 1 + n))
    (hq : Exit.lab F n P c Q e a₁ w₁) (harr : ArrivesIn (Machine.fenced P F) P m b (.inScope c :: k) cs e a₁ w₁) :
    ∃ e a' w', Q e a' w' ∧ ArrivesIn (Machine.fenced P F) P m b k cs e a' w' := by
  cases e with
  | normal => exact ⟨.normal, a₁, w₁, hq, StepsIn.trans harr (.one (fenced_calm hb hr rfl) stepR_inScope)⟩
  | exit id =>
    have hx : exitTo id (.inScope c :: k) = exitTo id k := by simp [exitTo]
    exact ⟨.exit id, a₁, w₁, hq, fun k' hk => harr.1 k' (by rw [hx]; exact hk), fun hr' hk => harr.2 hr' (by rw [hx]; exact hk)⟩
  | goto l =>
    obtain ⟨rest, h1, h2⟩ := hq
    obtain ⟨e₂, a₂, w₂, hq₂, harr₂⟩ := h2 b k cs hro hb hr
    exact ⟨e₂, a₂, w₂, hq₂, .of_steps (harr.1 _ (by simp [gotoIn, h1])) harr₂⟩
  | ret => exact ⟨_, a₁, w₁, hq, harr⟩
  | panic ch => exact ⟨_, a₁, w₁, hq, harr⟩
  | outgrown => exact ⟨_, a₁, w₁, hq, harr⟩

theorem wp_scope_lab {F : Fence} {n : Nat} {P : Program} {c : Code} {Q : Exit → Act → World → Prop} {a : Act} {w : World} (h : c.wpIn F n P (Exit.lab F n P c Q) a w) : (Code.scope c).wpIn F n P Q a w := by
  intro b k cs hro hb hr
  obtain ⟨e, a₁, w₁, hq, harr⟩ := h b (.inScope c :: k) cs hro hb hr
  obtain ⟨e₂, a₂, w₂, hq₂, harr₂⟩ := lab_arrives hro hb hr hq harr
  exact ⟨e₂, a₂, w₂, hq₂, .of_steps (.one (fenced_calm hb hr rfl) stepR_scope) harr₂⟩

theorem at_label {F : Fence} {n : Nat} {P : Program} {c rest : Code} {l : Nat} {Q : Exit → Act → World → Prop} {a : Act} {w : World} (hf : findLabel c l = some rest) (h : rest.wpIn F n P (Exit.lab F n P c Q) a w) : ScopeAt F n P c l Q a w := by
  refine ⟨rest, hf, fun b k cs hro hb hr => ?_⟩
  obtain ⟨e, a₁, w₁, hq, harr⟩ := h b (.inScope c :: k) cs hro hb hr
  exact lab_arrives hro hb hr hq harr

section
variable {P : Program} {N B : Nat} {T : List Deferred}

/-- What is reached, and how far that is from where one came from. -/
def Post (N B : Nat) (T : List Deferred) (μ : List MI) (w : World) (n0 : Nat) (Q : Exit → FR → List Ob → List Ob → Prop) (e : Exit) (a' : Act) (w' : World) : Prop :=
  ∃ μ' fr' ba' lo', Q e fr' ba' lo' ∧ Rel N B T μ' w' a' fr' ba' lo' ∧ Le μ w μ' w' ∧ ba'.length = n0

theorem Post.from {μ μ' : List MI} {w w' : World} {n0 : Nat} {Q : Exit → FR → List Ob → List Ob → Prop} {e : Exit} {a : Act} {w'' : World} (h : Post N B T μ' w' n0 Q e a w'') (hle : Le μ w μ' w') : Post N B T μ w n0 Q e a w'' := by
  obtain ⟨μ2, fr', ba', lo', h1, h2, h3, h4⟩ := h
  exact ⟨μ2, fr', ba', lo', h1, h2, hle.trans h3, h4⟩

theorem Rel.proj {μ : List MI} {w : World} {a : Act} {fr : FR} {ba lo : List Ob} (h : Rel N B T μ w a fr ba lo) (ks : List Nat) : Rel N B T μ w a (ks.map fun t => (t, getF fr t)) ba lo :=
  ⟨h.inv, h.size, h.base, h.defers, fun t => by
    rcases get_proj ks fr t with e | e
    · rw [e]; exact h.vals t
    · rw [e]; exact .p _ _ (.undef _)⟩

/-! #### back to fewer objects -/

theorem at_to_takeN {M M' : Nat → Prop} {n0 n : Nat} {μ : List MI} {r : Rf} {m : MI} (hl : r.lowL n = true) (h : Ctx.at ⟨M, n0, μ⟩ r = some m) : Ctx.at ⟨M', n0, μ.take (n0 + n)⟩ r = some m := by
  cases r with
  | l k =>
    have hk : k < n := by
      have : k + 1 ≤ n := by simpa [Rf.lowL, Nat.blt] using hl
      exact this
    simp only [Ctx.at] at h ⊢
    rw [List.getElem?_take, if_pos (by omega)]; exact h
  | b id =>
    simp only [Ctx.at] at h ⊢
    split at h
    · rename_i hlt; rw [if_pos hlt, List.getElem?_take, if_pos (by omega)]; exact h
    · cases h

theorem VA.to_takeN {M M' : Nat → Prop} {n0 n : Nat} {μ : List MI} {w : World} {v : Value} {a : AV} (hs : Stays M w M' w) (h : VA ⟨M, n0, μ⟩ w v a) : a.lowL n = true → VA ⟨M', n0, μ.take (n0 + n)⟩ w v a := by
  generalize hΓ : (⟨M, n0, μ⟩ : Ctx) = Γ at h
  induction h with
  | p v e h => subst hΓ; intro _; exact .p v e (h.mono hs)
  | ref r off b h => subst hΓ; intro hl; simp only [AV.lowL] at hl; exact .ref r off b (at_to_takeN hl h)
  | view0 r g sz n h => subst hΓ; intro hl; simp only [AV.lowL] at hl; exact .view0 r g sz n (at_to_takeN hl h)
  | view r g sz n b len cap h h1 h2 => subst hΓ; intro hl; simp only [AV.lowL] at hl; exact .view r g sz n b len cap (at_to_takeN hl h) h1 h2
  | viewOld v r g sz len b g' n h hg h0 => subst hΓ; intro hl; simp only [AV.lowL] at hl; exact .viewOld v r g sz len b g' n (at_to_takeN hl h) hg h0
  | viewGone v r g sz len h h0 => subst hΓ; intro hl; simp only [AV.lowL] at hl; exact .viewGone v r g sz len (at_to_takeN hl h) h0
  | elt r g sz n b idx off h => subst hΓ; intro hl; simp only [AV.lowL] at hl; exact .elt r g sz n b idx off (at_to_takeN hl h)
  | eltOld v r g sz idx off b g' n h hg h0 => subst hΓ; intro hl; simp only [AV.lowL] at hl; exact .eltOld v r g sz idx off b g' n (at_to_takeN hl h) hg h0
  | eltGone v r g sz idx off h h0 => subst hΓ; intro hl; simp only [AV.lowL] at hl; exact .eltGone v r g sz idx off (at_to_takeN hl h) h0
  | mapr r b h => subst hΓ; intro hl; simp only [AV.lowL] at hl; exact .mapr r b (at_to_takeN hl h)
  | maprGone v r h h0 => subst hΓ; intro hl; simp only [AV.lowL] at hl; exact .maprGone v r (at_to_takeN hl h) h0
  | clos f xs ys as bs h1 h2 _ _ ih1 ih2 =>
    intro hl; simp only [AV.lowL, Bool.and_eq_true] at hl
    exact .clos f xs ys as bs h1 h2 (fun j x c hx hc => ih1 j x c hx hc (lowsL_mem hl.1 c (List.mem_of_getElem? hc))) (fun j x c hx hc => ih2 j x c hx hc (lowsL_mem hl.2 c (List.mem_of_getElem? hc)))
  | agg xs cs h1 _ h3 ih => intro hl; simp only [AV.lowL] at hl; exact .agg xs cs h1 (fun j x c hx hc => ih j x c hx hc (lowsL_mem hl c (List.mem_of_getElem? hc))) h3
  | tup xs cs h1 _ ih => intro hl; simp only [AV.lowL] at hl; exact .tup xs cs h1 (fun j x c hx hc => ih j x c hx hc (lowsL_mem hl c (List.mem_of_getElem? hc)))

theorem obsLowL_get {n : Nat} : ∀ {l : List Ob}, obsLowL n l = true → ∀ (k : Nat) (o : Ob), l[k]? = some o → ∀ cs, (o = .cells cs ∨ ∃ a b c d, o = .loop a b c cs d) → AV.lowsL n cs = true
  | [], _, k, o, h, _, _ => by simp at h
  | x :: r, h, k, o, ho, cs, e => by
    cases k with
    | zero =>
      simp at ho
      subst ho
      rcases e with rfl | ⟨_, _, _, _, rfl⟩
      · simp only [obsLowL, Bool.and_eq_true] at h
        exact h.1
      · simp only [obsLowL, Bool.and_eq_true] at h
        exact h.1
    | succ k =>
      have : obsLowL n r = true := by
        cases x <;> simp only [obsLowL, Bool.and_eq_true] at h <;> first | exact h.2 | exact h
      exact obsLowL_get this k o (by simpa using ho) cs e

theorem blocks_take {μ : List MI} {n b : Nat} (h : blocks (μ.take n) b) : blocks μ b := by
  obtain ⟨i, m, h1, h2⟩ := h
  exact ⟨i, m, take_get h1, h2⟩

theorem Inv.trunc {μ : List MI} {w : World} {ba lo : List Ob} (h : Inv μ w ba lo) {n : Nat} (hn : n ≤ lo.length) (hl : obsLowL n (lo.take n) = true) : Inv (μ.take (ba.length + n)) w ba (lo.take n) := by
  have hs : Stays (blocks μ) w (blocks (μ.take (ba.length + n))) w := ⟨Nat.le_refl _, fun b _ hb => ⟨fun hc => hb (blocks_take hc), rfl⟩⟩
  refine ⟨by rw [List.length_take, List.length_take, h.len]; omega, fun i j m m' b h1 h2 => h.apart i j m m' b (take_get h1) (take_get h2), fun i o ho => ?_, fun k o ho => ?_⟩
  · obtain ⟨m, h1, h2⟩ := h.bases i o ho
    have hi := get_lt ho
    refine ⟨m, by rw [List.getElem?_take, if_pos (by omega)]; exact h1, ?_⟩
    rw [List.take_take, Nat.min_eq_left (by omega)]
    exact h2.mono hs (.refl _) fun b _ => rfl
  · have hk := get_lt ho
    rw [List.length_take] at hk
    have ho' := take_get ho
    obtain ⟨m, h1, h2⟩ := h.locs k o ho'
    refine ⟨m, by rw [List.getElem?_take, if_pos (by omega)]; exact h1, ?_⟩
    cases h2 with
    | cells b xs t cs a1 a2 a3 =>
      have hcs := obsLowL_get hl k _ ho cs (.inl rfl)
      exact .cells b xs t cs a1 a2 fun j x c hx hc => ⟨(a3 j x c hx hc).1.to_takeN hs (lowsL_mem hcs c (List.mem_of_getElem? hc)), (a3 j x c hx hc).2⟩
    | buf0 g sz n => exact .buf0 g sz n
    | buf b g n sz xs t es c a1 a2 a3 a4 => exact .buf b g n sz xs t es c a1 a2 a3 fun j e he => ⟨(a4 j e he).1, (a4 j e he).2.1, (a4 j e he).2.2.mono hs⟩
    | map b clock xs es a1 a2 a3 => exact .map b clock xs es a1 a2 fun j x e hx he => ⟨(a3 j x e hx he).1.mono hs, (a3 j x e hx he).2.mono hs⟩
    | loop l r ks cs st p a1 a2 a0 a3 =>
      have hcs := obsLowL_get hl k _ ho cs (.inr ⟨_, _, _, _, rfl⟩)
      exact .loop l r ks cs st p a1 a2 a0 fun j t c hj hc => (a3 j t c hj hc).to_takeN hs (lowsL_mem hcs c (List.mem_of_getElem? hc))
    | gone => exact .gone

theorem Le.trunc {μ μ' : List MI} {w w' : World} (h : Le μ w μ' w') : Le μ w (μ'.take μ.length) w' :=
  ⟨h.os, h.tape, h.output, fun i m hm => by
    obtain ⟨m', h1, h2⟩ := h.above i m hm
    exact ⟨m', by rw [List.getElem?_take, if_pos (get_lt hm)]; exact h1, h2⟩,
   h.stays.1, fun b hb hm => ⟨fun hc => (h.stays.2 b hb hm).1 (blocks_take hc), (h.stays.2 b hb hm).2⟩⟩

theorem frLowL_get {n : Nat} : ∀ {fr : FR}, frLowL n fr = true → ∀ t, (getF fr t).lowL n = true
  | [], _, t => rfl
  | (u, x) :: r, h, t => by
    simp only [frLowL, Bool.and_eq_true] at h
    simp only [getF]
    cases Nat.beq u t
    · exact frLowL_get h.2 t
    · exact h.1

/-- The code that is read so. -/
inductive Reads (P : Program) (N : Nat) (own : List Nat) : Code → IC → Prop
  | skip : Reads P N own .skip .skip
  | ops (id : Nat) (ops : Array Oper) (is : List IO_) : compOps P N own ops.toList 0 ops.toList = some is → Reads P N own (.region id ops false) (.ops is)
  | pops (id : Nat) (ops : Array Oper) (is : List IO_) : compOps P N own ops.toList 0 ops.toList = some is → Reads P N own (.region id ops false) (.pops is)
  | qops (id : Nat) (ops : Array Oper) (is : List IO_) : compOps P N own ops.toList 0 ops.toList = some is → drawOkP ops.toList is = true → Reads P N own (.region id ops true) (.qops is (befores ops.toList))
  | dops (id : Nat) (ops : Array Oper) (is : List IO_) : compOps P N own ops.toList 0 ops.toList = some is → drawOk false ops.toList is = true → Reads P N own (.region id ops true) (.dops is)
  | eops (id : Nat) (ops : Array Oper) (is : List IO_) : compOps P N own ops.toList 0 ops.toList = some is → drawOk true ops.toList is = true → Reads P N own (.region id ops true) (.eops is (befores ops.toList))
  | seq (a b : Code) (x y : IC) : compC P N own a = some x → compC P N own b = some y → Reads P N own (.seq a b) (.seq x y)
  | cond (o : Operand) (r : Rv) (a b : Code) (x y : IC) : rv o = some r → compC P N own a = some x → compC P N own b = some y → Reads P N own (.cond o a b) (.cond r x y)
  | block (id : Nat) (a : Code) (x : IC) : compC P N own a = some x → Reads P N own (.block id a) (.block id x)
  | loop (a : Code) (x : IC) : compC P N own a = some x → Reads P N own (.loop a) (.loop [] x)
  | exit (id : Nat) : Reads P N own (.exit id) (.exit id)
  | ret : Reads P N own .ret .ret
  | scope (a : Code) (x y : IC) : compC P N own a = some x → y = chainI x (labelsI x) → Reads P N own (.scope a) (.scope y)
  | label (l : Nat) : Reads P N own (.label l) (.label l)
  | goto (l : Nat) : Reads P N own (.goto l) (.goto l [])
  | rangeF (g : Operand) (r : Rv) (ps : Array Nat) (a b : Code) (x y : IC) (l : List Nat) : rv g = some r → compC P N own a = some x → compC P N own b = some y → (∀ t, t ∈ ps.toList → t < N) → l = ps.toList → Reads P N own (.rangeFunc g ps a b) (.rangeF [] r l x y)
  | bad (c : Code) : Reads P N own c .bad

theorem reads_of {own : List Nat} {c : Code} {ic : IC} (h : compC P N own c = some ic) : Reads P N own c ic := by
  cases c with
  | skip => cases h; exact .skip
  | region id ops draw =>
    simp only [compC] at h
    split at h
    · rename_i is his
      split at h
      · cases draw with
        | false => simp only [Bool.false_eq_true, if_false] at h; cases h; exact .pops id ops is his
        | true =>
          simp only [if_true] at h
          split at h
          · rename_i hd; cases h; exact .qops id ops is his hd
          · cases h; exact .bad _
      cases draw with
      | false => simp only [Bool.false_eq_true, if_false] at h; cases h; exact .ops id ops is his
      | true =>
        simp only [if_true] at h
        split at h
        · rename_i hd; cases h; exact .dops id ops is his hd
        · split at h
          · rename_i hd; cases h; exact .eops id ops is his hd
          · cases h
    · cases h
  | seq a b =>
    simp only [compC] at h
    split at h
    · rename_i x y h1 h2; cases h; exact .seq a b x y h1 h2
    · cases h
  | cond o a b =>
    simp only [compC] at h
    split at h
    · rename_i r x y h1 h2 h3; cases h; exact .cond o r a b x y h1 h2 h3
    · cases h
  | block id a => obtain ⟨x, h1, rfl⟩ := map_some h; exact .block id a x h1
  | loop a => obtain ⟨x, h1, rfl⟩ := map_some h; exact .loop a x h1
  | exit id => cases h; exact .exit id
  | ret => cases h; exact .ret
  | scope a => obtain ⟨x, h1, rfl⟩ := map_some h; exact .scope a x _ h1 rfl
  | label l => cases h; exact .label l
  | goto l => cases h; exact .goto l
  | rangeFunc g ps a b =>
    simp only [compC] at h
    split at h
    · rename_i r x y h1 h2 h3
      split at h
      · rename_i h4
        cases h
        refine .rangeF g r ps a b x y _ h1 h2 h3 (fun t ht => ?_) rfl
        rw [List.all_eq_true] at h4
        have : Nat.ble (t + 1) N = true := h4 t ht
        exact Nat.le_of_ble_eq_true this
      · cases h
    · cases h
  | _ => cases h; exact .bad _

/-- What stands behind a label is read alike. -/
theorem find_comp {own : List Nat} : ∀ (c : Code) (x : IC), compC P N own c = some x → ∀ l, (findLabel c l = none ∧ findI x l = none) ∨ ∃ r y, findLabel c l = some r ∧ findI x l = some y ∧ compC P N own r = some y := by
  intro c
  induction c with
  | seq a b iha ihb =>
    intro x hx l
    simp only [compC] at hx
    split at hx
    · rename_i x y h1 h2
      cases hx
      rcases iha x h1 l with ⟨g1, g2⟩ | ⟨r, z, g1, g2, g3⟩
      · rcases ihb y h2 l with ⟨k1, k2⟩ | ⟨r, z, k1, k2, k3⟩
        · exact .inl ⟨by simp [findLabel, g1, k1], by simp [findI, g2, k2]⟩
        · exact .inr ⟨r, z, by simp [findLabel, g1, k1], by simp [findI, g2, k2], k3⟩
      · exact .inr ⟨.seq r b, .seq z y, by simp [findLabel, g1], by simp [findI, g2], by simp [compC, g3, h2]⟩
    · cases hx
  | label l' =>
    intro x hx l
    cases hx
    by_cases h : l' = l
    · subst h; exact .inr ⟨.skip, .skip, by simp [findLabel], by simp [findI], rfl⟩
    · exact .inl ⟨by simp [findLabel, h], by simp [findI, h]⟩
  | _ => intro x hx l; cases reads_of hx <;> exact .inl ⟨rfl, rfl⟩

theorem chain_cases (x : IC) : ∀ ls, chainI x ls = x ∨ ∃ l y ls', findI x l = some y ∧ chainI x ls = .lab l y (chainI x ls')
  | [] => .inl rfl
  | l :: ls => by
    cases h : findI x l with
    | none => simp only [chainI, h]; exact chain_cases x ls
    | some y => exact .inr ⟨l, y, ls, h, by simp only [chainI, h]⟩

theorem Marks.take {μ : List MI} {w : World} {ds : List Deferred} (h : Marks B T μ w ds) (n : Nat) : Marks B T (μ.take n) w ds := by
  obtain ⟨Ds, h1, h2, h3⟩ := h
  exact ⟨Ds, h1, h2, fun D hD => ⟨(h3 D hD).1, fun hc => (h3 D hD).2.1 (blocks_take hc), (h3 D hD).2.2⟩⟩

/-! #### a block that nobody knows is shut -/
theorem VP.still {M : Nat → Prop} {w w' : World} (hs : w.heap.size ≤ w'.heap.size) (hc : ∀ a x, w.cell? a = some x → w'.cell? a = some x) {v : Value} {e : PV} (h : VP M w v e) : VP M w' v e := by
  induction h with
  | undef v => exact .undef v
  | bool b => exact .bool b
  | int k n => exact .int k n
  | str s => exact .str s
  | agg xs cs h1 _ h3 ih => exact .agg xs cs h1 ih h3
  | tup xs cs h1 _ ih => exact .tup xs cs h1 ih
  | nils => exact .nils
  | list0 sz A cap h => exact .list0 sz A cap h
  | list b off cap sz es c h1 h2 h3 h4 h5 _ ih => exact .list b off cap sz es c h1 (Nat.lt_of_lt_of_le h2 hs) h3 h4 (fun j e he i x hx => ⟨(h5 j e he i x hx).1, hc _ _ (h5 j e he i x hx).2⟩) ih
  | lent b off cap sz es sp c h1 h2 h3 h4 h5 _ ih => exact .lent b off cap sz es sp c h1 (Nat.lt_of_lt_of_le h2 hs) h3 h4 (fun j e he i x hx => ⟨(h5 j e he i x hx).1, hc _ _ (h5 j e he i x hx).2⟩) ih
  | nilp => exact .nilp
  | ptr b off cs c h1 h2 h3 _ ih => exact .ptr b off cs c h1 (Nat.lt_of_lt_of_le h2 hs) (fun j e he => ⟨(h3 j e he).1, hc _ _ (h3 j e he).2⟩) ih
  | fn f => exact .fn f
  | nilf => exact .nilf
  | nilm => exact .nilm
  | nili => exact .nili
  | iface t x v _ ih => exact .iface t x v ih
theorem VA.still {Γ : Ctx} {w w' : World} (hs : w.heap.size ≤ w'.heap.size) (hc : ∀ a x, w.cell? a = some x → w'.cell? a = some x) {v : Value} {a : AV} (h : VA Γ w v a) : VA Γ w' v a := by
  induction h with
  | p v e h => exact .p v e (h.still hs hc)
  | ref r off b h => exact .ref r off b h
  | view0 r g sz n h => exact .view0 r g sz n h
  | view r g sz n b len cap h h1 h2 => exact .view r g sz n b len cap h h1 h2
  | viewOld v r g sz len b g' n h hg h0 => exact .viewOld v r g sz len b g' n h hg h0
  | viewGone v r g sz len h h0 => exact .viewGone v r g sz len h h0
  | elt r g sz n b idx off h => exact .elt r g sz n b idx off h
  | eltOld v r g sz idx off b g' n h hg h0 => exact .eltOld v r g sz idx off b g' n h hg h0
  | eltGone v r g sz idx off h h0 => exact .eltGone v r g sz idx off h h0
  | mapr r b h => exact .mapr r b h
  | maprGone v r h h0 => exact .maprGone v r h h0
  | clos f xs ys as bs h1 h2 _ _ ih1 ih2 => exact .clos f xs ys as bs h1 h2 ih1 ih2
  | agg xs cs h1 _ h3 ih => exact .agg xs cs h1 ih h3
  | tup xs cs h1 _ ih => exact .tup xs cs h1 ih
theorem ObOk.still {Γ : Ctx} {w w' : World} (hs : w.heap.size ≤ w'.heap.size) (hc : ∀ a x, w.cell? a = some x → w'.cell? a = some x) {m : MI} {o : Ob} (h : ObOk Γ w m o) (hb : ∀ b, m.block? = some b → w'.heap[b]? = w.heap[b]?) : ObOk Γ w' m o := by
  cases h with
  | cells b xs t cs h1 h2 h3 => exact .cells b xs t cs ((hb b rfl).trans h1) h2 fun j x c a b => ⟨(h3 j x c a b).1.still hs hc, (h3 j x c a b).2⟩
  | buf0 g sz n => exact .buf0 g sz n
  | buf b g n sz xs t es c h1 h2 h3 h4 => exact .buf b g n sz xs t es c ((hb b rfl).trans h1) h2 h3 fun j e he => ⟨(h4 j e he).1, (h4 j e he).2.1, (h4 j e he).2.2.still hs hc⟩
  | map b clock xs es h1 h2 h3 => exact .map b clock xs es ((hb b rfl).trans h1) h2 fun j x e a c => ⟨(h3 j x e a c).1.still hs hc, (h3 j x e a c).2.still hs hc⟩
  | loop l r ks cs st p h1 h2 h0 h3 => exact .loop l r ks cs st p ((hb l rfl).trans h1) h2 h0 fun j t c a b => (h3 j t c a b).still hs hc
  | gone => exact .gone
theorem put_cell {w : World} {D : Nat} {x : Option (List Deferred)} (h : w.heap[D]? = some (.deferred x)) (o : Obj) (a : Addr) (v : Value) (hc : w.cell? a = some v) : (w.putObj D o).cell? a = some v := by
  have : a.block ≠ D := by
    intro e
    subst e
    simp [World.cell?, h] at hc
  unfold World.cell? at hc ⊢
  rw [World.putObj_heap_other this]
  exact hc
theorem Inv.shut {μ : List MI} {w : World} {ba lo : List Ob} {D : Nat} {x : Option (List Deferred)} (h : Inv μ w ba lo) (hD : ¬ blocks μ D) (hh : w.heap[D]? = some (.deferred x)) (o : Obj) : Inv μ (w.putObj D o) ba lo := by
  have hs : w.heap.size ≤ (w.putObj D o).heap.size := by simp
  have hb : ∀ {i : Nat} {m : MI}, μ[i]? = some m → ∀ b, m.block? = some b → (w.putObj D o).heap[b]? = w.heap[b]? := fun {i m} hm b hb => World.putObj_heap_other fun e => hD (e ▸ ⟨i, m, hm, hb⟩)
  refine ⟨h.len, h.apart, fun i o' ho => ?_, fun k o' ho => ?_⟩
  · obtain ⟨m, h1, h2⟩ := h.bases i o' ho
    exact ⟨m, h1, h2.still hs (put_cell hh o) (hb h1)⟩
  · obtain ⟨m, h1, h2⟩ := h.locs k o' ho
    exact ⟨m, h1, h2.still hs (put_cell hh o) (hb h1)⟩

def shutAll : List Nat → World → World
  | [], w => w
  | D :: r, w => shutAll r (w.putObj D (.deferred none))

/-- At the end of a function: the marks are taken in. -/
theorem Rel.shut : ∀ (Ds : List Nat) {μ0 μ : List MI} {w0 w : World} {a : Act} {fr : FR} {ba lo : List Ob}, Ds.Nodup → (∀ D, D ∈ Ds → w0.heap.size ≤ D ∧ ¬ blocks μ D ∧ w.heap[D]? = some (.deferred (some []))) → Rel N B [] μ w { a with defers := [] } fr ba lo → Le μ0 w0 μ w →
    Rel N B [] μ (shutAll Ds w) { a with defers := [] } fr ba lo ∧ Le μ0 w0 μ (shutAll Ds w)
  | [], _, _, _, _, _, _, _, _, _, _, hr, hle => ⟨hr, hle⟩
  | D :: r, μ0, μ, w0, w, a, fr, ba, lo, hn, hD, hr, hle => by
    obtain ⟨g1, g2, g3⟩ := hD D (by simp)
    obtain ⟨n1, n2⟩ := List.nodup_cons.1 hn
    have hs : w.heap.size ≤ (w.putObj D (.deferred none)).heap.size := by simp
    refine Rel.shut r n2 (fun D' hD' => ?_) ⟨hr.inv.shut g2 g3 _, hr.size, Nat.le_trans hr.base hs, .nil, fun t => (hr.vals t).still hs (put_cell g3 _)⟩ ?_
    · obtain ⟨k1, k2, k3⟩ := hD D' (by simp [hD'])
      exact ⟨k1, k2, (World.putObj_heap_other fun (e : D' = D) => n1 (e ▸ hD')).trans k3⟩
    · exact ⟨hle.os, hle.tape, hle.output, hle.above, Nat.le_trans hle.stays.1 hs, fun b hb hm => ⟨(hle.stays.2 b hb hm).1, (World.putObj_heap_other (by omega)).trans (hle.stays.2 b hb hm).2⟩⟩

theorem leaves_marks {F : Fence} {n : Nat} {fn : Func} {tmps : Array Value} {R : Ending → World → Prop} : ∀ (Ds : List Nat) {w : World}, Ds.Nodup → (∀ D, D ∈ Ds → w.heap[D]? = some (.deferred (some []))) → (∃ v, (results fn tmps).run P (shutAll Ds w) = .ok v (shutAll Ds w) ∧ R (.returned v) (shutAll Ds w)) →
    LeavesInM F n P fn tmps R (Ds.map fun D => { target := .collected D, args := #[] }) .returning w
  | [], w, _, _, h => h
  | D :: r, w, hn, hD, h => by
    obtain ⟨n1, n2⟩ := List.nodup_cons.1 hn
    refine ⟨by simp, .inl ⟨D, _, rfl, run_takeDeferred (hD D (by simp)), leaves_marks r n2 (fun D' hD' => ?_) h⟩⟩
    exact (World.putObj_heap_other fun (e : D' = D) => n1 (e ▸ hD')).trans (hD D' (by simp [hD']))

/-- A piece is read right; and so is a piece with its labels ahead of it. -/
def Snd (P : Program) (N B : Nat) (T : List Deferred) (ro : Option Nat) (nd : Nat) (own : List Nat) (ic : IC) : Prop := ∀ (c : Code), compC P N own c = some ic.bare → ∀ {fr : FR} {ba lo : List Ob} {Q : Exit → FR → List Ob → List Ob → Prop}, W P ic fr ba lo Q →
    ∀ {μ : List MI} {w : World} {a : Act}, Rel N B T μ w a fr ba lo → c.wpIn (FW ro) nd P (Post N B T μ w ba.length Q) a w
def Chn (P : Program) (N B : Nat) (T : List Deferred) (ro : Option Nat) (nd : Nat) (own : List Nat) (ic : IC) : Prop := ∀ (c : Code) (x : IC) (ls : List Nat), compC P N own c = some x → ic.bare = chainI x ls → ∀ {fr : FR} {ba lo : List Ob} {Q : Exit → FR → List Ob → List Ob → Prop}, W P ic fr ba lo Q →
    (∀ l r, findLabel c l = some r → ∀ (fr : FR) (ba2 lo : List Ob), (∀ μ w a, Rel N B T μ w a fr ba2 lo → r.wpIn (FW ro) nd P (Post N B T μ w ba2.length Q) a w) → Q (.goto l) fr ba2 lo) →
    ∀ {μ : List MI} {w : World} {a : Act}, Rel N B T μ w a fr ba lo → c.wpIn (FW ro) nd P (Post N B T μ w ba.length Q) a w

theorem both {ro : Option Nat} {nd : Nat} {own : List Nat} {ic : IC} (hn : ∀ l x y, ic = .lab l x y → Snd P N B T ro nd own x ∧ Chn P N B T ro nd own y) (h : Snd P N B T ro nd own ic) : Snd P N B T ro nd own ic ∧ Chn P N B T ro nd own ic := by
  refine ⟨h, fun c x ls hc hb fr ba lo Q hw hcl μ w a hr => ?_⟩
  rcases chain_cases x ls with e | ⟨l, y, ls', hy, e⟩
  · exact h c (by rw [hb, e]; exact hc) hw hr
  · rw [e] at hb
    cases ic with
    | lab l1 x1 y1 =>
      simp only [IC.bare, IC.lab.injEq] at hb
      obtain ⟨rfl, hx1, hy1⟩ := hb
      obtain ⟨g1, g2⟩ := hn _ _ _ rfl
      refine g2 c x ls' hc hy1 (hw fun fr ba2 lo hx => ?_) hcl hr
      rcases find_comp c x hc l1 with ⟨_, k2⟩ | ⟨r, z, k1, k2, k3⟩
      · rw [hy] at k2; cases k2
      · rw [hy] at k2
        cases k2
        exact hcl l1 r k1 fr ba2 lo fun μ w a hr => g1 r (by rw [hx1]; exact k3) hx hr
    | _ => cases hb

theorem noL {ro : Option Nat} {a b : Bool} (h : ro = none ∨ (a && b) = true) : ro = none ∨ a = true := h.imp id fun h => by simp at h; exact h.1
theorem noE {ro : Option Nat} {a b : Bool} (h : ro = none ∨ (a && b) = true) : ro = none ∨ b = true := h.imp id fun h => by simp at h; exact h.2


/-! #### a range over a function -/
theorem colK_eq : ∀ (fr : FR) (k : List AV → Prop), colK fr k = k (fr.map (·.2))
  | [], k => rfl
  | (t, v) :: r, k => by simp only [colK]; rw [colK_eq r]; rfl
theorem zipK_out : ∀ (ks : List Nat) (cs : List AV) (k : FR → Prop), zipK ks cs k → k (ks.zip cs)
  | [], [], k, h => h
  | t :: ts, v :: vs, k, h => zipK_out ts vs _ h
  | [], _ :: _, k, h => h.elim
  | _ :: _, [], k, h => h.elim
def setPs : List Nat → List PV → FR → FR
  | t :: ts, v :: vs, fr => setPs ts vs (setF fr t (.p v))
  | _, _, fr => fr
theorem setPsK_out : ∀ (ps : List Nat) (pl : List PV) (fr : FR) (k : FR → Prop), setPsK ps pl fr k → ps.length = pl.length ∧ k (setPs ps pl fr)
  | [], [], fr, k, h => ⟨rfl, h⟩
  | t :: ts, v :: vs, fr, k, h => by
    simp only [setPsK, setK_eq] at h
    obtain ⟨h1, h2⟩ := setPsK_out ts vs _ k h
    exact ⟨by simp [h1], h2⟩
  | [], _ :: _, fr, k, h => h.elim
  | _ :: _, [], fr, k, h => h.elim

theorem zip_vals {Γ : Ctx} {w : World} {f : Nat → Value} : ∀ (ks : List Nat) (cs : List AV), (∀ (j t : Nat) (c : AV), ks[j]? = some t → cs[j]? = some c → VA Γ w (f t) c) → ∀ t, VA Γ w (f t) (getF (ks.zip cs) t)
  | [], cs, _, t => .p _ _ (.undef _)
  | _ :: _, [], _, t => .p _ _ (.undef _)
  | u :: ks, c :: cs, h, t => by
    simp only [List.zip_cons_cons, getF]
    cases hb : Nat.beq u t with
    | true => rw [← Nat.eq_of_beq_eq_true hb]; exact h 0 u c rfl rfl
    | false => exact zip_vals ks cs (fun j t' c' h1 h2 => h (j + 1) t' c' h1 h2) t

/-- The loop's variables are set. -/
theorem setPs_vals {Γ : Ctx} {w : World} : ∀ (ps : List Nat) (pl : List PV) (xs : List Value) (tmps : Array Value) (fr : FR), (∀ t, t ∈ ps → t < N) → tmps.size = N → ps.length = pl.length → xs.length = pl.length → (∀ (j : Nat) (x : Value) (e : PV), xs[j]? = some x → pl[j]? = some e → VA Γ w x (.p e)) →
    (∀ t, VA Γ w (tmps.getD t undef) (getF fr t)) → ((ps.zip xs).foldl (fun tmps (p : Nat × Value) => tmps.setIfInBounds p.1 p.2) tmps).size = N ∧ ∀ t, VA Γ w (((ps.zip xs).foldl (fun tmps (p : Nat × Value) => tmps.setIfInBounds p.1 p.2) tmps).getD t undef) (getF (setPs ps pl fr) t)
  | [], [], xs, tmps, fr, _, hs, _, _, _, hv => by cases xs <;> exact ⟨hs, hv⟩
  | p :: ps, e :: pl, x :: xs, tmps, fr, hp, hs, h1, h2, hx, hv => by
    simp only [List.zip_cons_cons, List.foldl_cons, setPs]
    refine setPs_vals ps pl xs _ _ (fun t ht => hp t (by simp [ht])) (by simp [hs]) (by simpa using h1) (by simpa using h2) (fun j y e' g1 g2 => hx (j + 1) y e' g1 g2) fun t => ?_
    rw [get_set]
    by_cases he : p = t
    · subst he
      rw [if_pos rfl]
      have hlt := hp p (by simp)
      have : (tmps.setIfInBounds p x).getD p undef = x := by simp [hs, hlt]
      rw [this]
      exact hx 0 x e rfl rfl
    · rw [if_neg he]
      have : (tmps.setIfInBounds p x).getD t undef = tmps.getD t undef := by simp [Array.getElem?_setIfInBounds_ne he]
      rw [this]
      exact hv t
  | [], _ :: _, _, _, _, _, _, h, _, _, _ => by cases h
  | _ :: _, [], _, _, _, _, _, h, _, _, _ => by cases h
  | _ :: _, _ :: _, [], _, _, _, _, _, h, _, _ => by cases h

theorem loop_at {μ : List MI} {w : World} {ba lo : List Ob} {k l : Nat} {r : Loop} {ks : List Nat} {cs : List AV} {st : LSt} (hi : Inv μ w ba lo) (hk : lo[k]? = some (.loop l r ks cs st)) :
    μ[ba.length + k]? = some (.cells l) ∧ ∃ p, w.heap[l]? = some (.loop { r with state := st.state, pending := p }) ∧ st.pend p ∧ ks.length = cs.length ∧ ∀ (j t : Nat) (c : AV), ks[j]? = some t → cs[j]? = some c → VA ⟨blocks μ, ba.length, μ⟩ w (r.tmps.getD t undef) c := by
  obtain ⟨m, h1, h2⟩ := hi.locs k _ hk
  cases h2 with
  | loop _ _ _ _ _ p g1 g2 g3 g4 => exact ⟨h1, p, g1, g2, g3, g4⟩

/-- The loop's record turns. -/
theorem loop_step {μ : List MI} {w : World} {ba lo : List Ob} {k l : Nat} {r : Loop} {ks : List Nat} {cs : List AV} {st : LSt} (st' : LSt) (p' : Option Code) (hi : Inv μ w ba lo) (hk : lo[k]? = some (.loop l r ks cs st)) (hp : st'.pend p') :
    Inv μ (w.putObj l (.loop { r with state := st'.state, pending := p' })) ba (lo.set k (.loop l r ks cs st')) ∧ Le μ w μ (w.putObj l (.loop { r with state := st'.state, pending := p' })) := by
  obtain ⟨h1, p, h2, h3, h4, h5⟩ := loop_at hi hk
  have hkl := get_lt hk
  have hset : μ.set (ba.length + k) (.cells l) = μ := by
    apply List.ext_getElem?
    intro i
    rw [List.getElem?_set]
    split
    · rename_i e
      subst e
      rw [if_pos (get_lt h1), h1]
    · rfl
  have hlt := (Array.getElem?_eq_some_iff.1 h2).1
  have q := hi.change (w' := w.putObj l (.loop { r with state := st'.state, pending := p' })) (ba' := ba) (lo' := lo.set k (.loop l r ks cs st')) (m' := .cells l) h1 (.refl _) (fun b hb => .inl hb) rfl rfl rfl (by simp) (fun b hb hne => World.putObj_heap_other fun e => hne (by rw [e]; rfl)) rfl (by simp) (fun _ _ => rfl)
    (fun k' hk' => by rw [List.getElem?_set_ne (by omega)]) (fun _ o hlt2 _ => by omega) (fun hle k' o he ho => by
      have : k' = k := by omega
      subst this
      rw [List.getElem?_set] at ho
      simp only [if_true, hkl] at ho
      cases ho
      rw [hset] at hle ⊢
      exact .loop l r ks cs st' p' (World.putObj_heap_same hlt) hp h4 fun j t c hj hc => (h5 j t c hj hc).mono hle.stays hle.above)
  rw [hset] at q
  exact q

/-- THE READING OF A PIECE OF CODE IS RIGHT. -/
theorem W_both {own : List Nat} (hm : P.follows .mixedOrders = true) : ∀ (ic : IC) (ro : Option Nat) (nd : Nat), (ro = none ∨ ic.noR = true) → ∀ {B : Nat} {T : List Deferred}, Snd P N B T ro nd own ic ∧ Chn P N B T ro nd own ic := by
  intro ic
  have seqs : ∀ (ro : Option Nat) (nd B : Nat) (T : List Deferred) (x y : IC) (f : FR → FR), (∀ {μ w a fr ba lo}, Rel N B T μ w a fr ba lo → Rel N B T μ w a (f fr) ba lo) → Snd P N B T ro nd own x → Snd P N B T ro nd own y →
      ∀ (c : Code), compC P N own c = some (.seq x.bare y.bare) → ∀ {fr : FR} {ba lo : List Ob} {Q : Exit → FR → List Ob → List Ob → Prop}, W P x fr ba lo (thenQ (fun fr ba lo => W P y (f fr) ba lo Q) Q) → ∀ {μ : List MI} {w : World} {a : Act}, Rel N B T μ w a fr ba lo → c.wpIn (FW ro) nd P (Post N B T μ w ba.length Q) a w := by
    intro ro nd B T x y f hf ihx ihy c hc fr ba lo Q h μ w a hr
    cases reads_of hc with
    | seq c1 c2 _ _ h1 h2 =>
      refine wpIn_seq (wpIn_mono (ihx c1 h1 h hr) fun e a' w' hp => ?_)
      obtain ⟨μ', fr', ba', lo', g1, g2, g3, g4⟩ := hp
      cases e with
      | normal =>
        refine wpIn_mono (ihy c2 h2 g1 (hf g2)) fun e a'' w'' hp => ?_
        rw [g4] at hp
        exact hp.from g3
      | exit id => exact ⟨μ', fr', ba', lo', g1, g2, g3, g4⟩
      | goto l => exact ⟨μ', fr', ba', lo', g1, g2, g3, g4⟩
      | ret => exact ⟨μ', fr', ba', lo', g1, g2, g3, g4⟩
      | panic ch => exact ⟨μ', fr', ba', lo', g1, g2, g3, g4⟩
      | outgrown => exact ⟨μ', fr', ba', lo', g1, g2, g3, g4⟩
  induction ic with
  | skip =>
    intro ro nd hno B T
    refine both (fun _ _ _ e => by cases e) ?_
    intro c hc fr ba lo Q h μ w a hr
    cases reads_of hc
    exact wpIn_skip ⟨μ, fr, ba, lo, h, hr, .refl _ _, rfl⟩
  | ops l =>
    intro ro nd hno B T
    refine both (fun _ _ _ e => by cases e) ?_
    intro c hc fr ba lo Q h μ w a hr
    cases reads_of hc with
    | ops id ops _ his =>
      refine wpIn_region ?_
      have := ops_sound (ro := ro) (nd := nd) (Q := Post N B T μ w ba.length Q) ops.toList l 0 rfl his h hr fun fr' ba' lo' μ' w' a' g1 g2 g3 g4 => ⟨μ', fr', ba', lo', g1, g2, g3, g4⟩
      rw [List.range_eq_range']
      simpa using this
  | dops l =>
    intro ro nd hno B T
    refine both (fun _ _ _ e => by cases e) ?_
    intro c hc fr ba lo Q h μ w a hr
    cases reads_of hc with
    | dops id ops _ his hd =>
      have := dops_sound (ro := ro) (nd := nd) (id := id) (Q := Post N B T μ w ba.length Q) his hd hm h hr fun fr' ba' lo' μ' w' a' g1 g2 g3 g4 => ⟨μ', fr', ba', lo', g1, g2, g3, g4⟩
      simpa using this
  | eops l bs =>
    intro ro nd hno B T
    refine both (fun _ _ _ e => by cases e) ?_
    intro c hc fr ba lo Q h μ w a hr
    cases reads_of hc with
    | eops id ops _ his hd =>
      have := eops_sound (ro := ro) (nd := nd) (id := id) (Q := Post N B T μ w ba.length Q) his hd hm h hr fun fr' ba' lo' μ' w' a' g1 g2 g3 g4 => ⟨μ', fr', ba', lo', g1, g2, g3, g4⟩
      simpa using this
  | pops l =>
    intro ro nd hno B T
    refine both (fun _ _ _ e => by cases e) ?_
    intro c hc fr ba lo Q h μ w a hr
    cases reads_of hc with
    | pops id ops _ his =>
      refine wpIn_region ?_
      have := pops_sound (ro := ro) (nd := nd) (Q := Post N B T μ w ba.length Q) ops.toList l 0 rfl his h hr (fun fr' ba' lo' μ' w' a' g1 g2 g3 g4 => ⟨μ', fr', ba', lo', g1, g2, g3, g4⟩) fun ch ba' lo' μ' w' a' g1 g2 g3 g4 => ⟨μ', dropF (dstsI l) fr, ba', lo', g1, g2, g3, g4⟩
      rw [List.range_eq_range']
      simpa using this
  | qops l bs =>
    intro ro nd hno B T
    refine both (fun _ _ _ e => by cases e) ?_
    intro c hc fr ba lo Q h μ w a hr
    cases reads_of hc with
    | qops id ops _ his hd =>
      have := qops_sound (ro := ro) (nd := nd) (id := id) (Q := Post N B T μ w ba.length Q) his hd hm h hr (fun fr' ba' lo' μ' w' a' g1 g2 g3 g4 => ⟨μ', fr', ba', lo', g1, g2, g3, g4⟩) fun ch ba' lo' μ' w' a' g1 g2 g3 g4 => ⟨μ', [], ba', lo', g1, g2, g3, g4⟩
      simpa using this
  | seq x y ihx ihy =>
    intro ro nd hno B T
    refine both (fun _ _ _ e => by cases e) ?_
    intro c hc fr ba lo Q h μ w a hr
    exact seqs ro nd B T x y id (fun h => h) (ihx ro nd (noL hno)).1 (ihy ro nd (noE hno)).1 c hc h hr
  | cut ks x y ihx ihy =>
    intro ro nd hno B T
    refine both (fun _ _ _ e => by cases e) ?_
    intro c hc fr ba lo Q h μ w a hr
    refine seqs ro nd B T x y (fun fr => ks.map fun t => (t, getF fr t)) (fun h => h.proj ks) (ihx ro nd (noL hno)).1 (ihy ro nd (noE hno)).1 c hc ?_ hr
    simp only [W_cut, projK_eq] at h
    exact h
  | cond r x y ihx ihy =>
    intro ro nd hno B T
    refine both (fun _ _ _ e => by cases e) ?_
    intro c hc fr ba lo Q h μ w a hr
    cases reads_of hc with
    | cond o _ c1 c2 _ _ h0 h1 h2 =>
      simp only [W_cond, evK_eq] at h
      split at h
      · rename_i t e
        have hv := hr.eval h0
        rw [e] at hv
        have h := splitB_out h
        refine wpIn_cond hv.bool_inv ?_
        cases t with
        | true => exact (ihx ro nd (noL hno)).1 c1 h1 h hr
        | false => exact (ihy ro nd (noE hno)).1 c2 h2 h hr
      · exact h.elim
  | block id x ihx =>
    intro ro nd hno B T
    refine both (fun _ _ _ e => by cases e) ?_
    intro c hc fr ba lo Q h μ w a hr
    cases reads_of hc with
    | block _ c1 _ h1 =>
      refine wpIn_block (wpIn_mono ((ihx ro nd hno).1 c1 h1 h hr) fun e a' w' hp => ?_)
      obtain ⟨μ', fr', ba', lo', g1, g2, g3, g4⟩ := hp
      cases e with
      | exit i =>
        simp only [Exit.inBlock]
        by_cases hi : i = id
        · rw [if_pos hi]
          subst hi
          have g1' : (bif Nat.beq i i then Q .normal else Q (.exit i)) fr' ba' lo' := g1
          have hb : Nat.beq i i = true := by simp
          rw [hb] at g1'
          exact ⟨μ', fr', ba', lo', g1', g2, g3, g4⟩
        · rw [if_neg hi]
          have g1' : (bif Nat.beq i id then Q .normal else Q (.exit i)) fr' ba' lo' := g1
          rw [beq_ne hi] at g1'
          exact ⟨μ', fr', ba', lo', g1', g2, g3, g4⟩
      | normal => exact ⟨μ', fr', ba', lo', g1, g2, g3, g4⟩
      | goto l => exact ⟨μ', fr', ba', lo', g1, g2, g3, g4⟩
      | ret => exact ⟨μ', fr', ba', lo', g1, g2, g3, g4⟩
      | panic ch => exact ⟨μ', fr', ba', lo', g1, g2, g3, g4⟩
      | outgrown => exact ⟨μ', fr', ba', lo', g1, g2, g3, g4⟩
  | loop ks x ihx =>
    intro ro nd hno B T
    refine both (fun _ _ _ e => by cases e) ?_
    intro c hc fr ba lo Q h μ w a hr
    cases reads_of hc with
    | loop c1 _ h1 =>
      simp only [W_loop, projK_eq] at h
      refine wp_of_in ?_
      refine h (fun fr' ba' lo' => ba'.length = ba.length → ∀ (μ' : List MI) (w' : World) (a' : Act), Rel N B T μ' w' a' fr' ba' lo' → inLoop (FW ro) nd P c1 (Post N B T μ' w' ba'.length Q) a' w') ?_ rfl μ w a (hr.proj ks)
      intro fr1 ba1 lo1 h2 hba μ1 w1 a1 hr1
      refine in_round (wpIn_mono ((ihx ro nd hno).1 c1 h1 h2 hr1) fun e a' w' hp => ?_)
      obtain ⟨μ', fr', ba', lo', g1, g2, g3, g4⟩ := hp
      cases e with
      | normal =>
        simp only [thenQ, roundQ, projK_eq] at g1
        split at g1
        · rename_i k0
          simp only [Bool.and_eq_true] at k0
          obtain ⟨k2, k3⟩ := k0
          obtain ⟨k1, k4⟩ := takeK_out _ _ _ g1
          have hn : μ1.length = ba1.length + lo1.length := hr1.inv.len
          have hrel : Rel N B T (μ'.take (ba'.length + lo1.length)) w' a' (ks.map fun t => (t, getF fr' t)) ba' (lo'.take lo1.length) :=
            ⟨g2.inv.trunc k1 k3, g2.size, g2.base, g2.defers.take _, fun t => by
              have hst : Stays (blocks μ') w' (blocks (μ'.take (ba'.length + lo1.length))) w' := ⟨Nat.le_refl _, fun b _ hb => ⟨fun hc => hb (blocks_take hc), rfl⟩⟩
              exact ((g2.proj ks).vals t).to_takeN hst (frLowL_get k2 t)⟩
          have hle : Le μ1 w1 (μ'.take (ba'.length + lo1.length)) w' := by
            have := g3.trunc
            rw [hn] at this
            rw [g4]
            exact this
          refine inLoop_mono (k4 (by rw [g4, hba]) _ _ _ hrel) fun e a'' w'' hp => ?_
          have hp2 := hp.from hle
          rw [g4] at hp2
          exact hp2
        · refine inLoop_mono (g1 (by rw [g4, hba]) _ _ _ (g2.proj ks)) fun e a'' w'' hp => ?_
          have hp2 := hp.from g3
          rw [g4] at hp2
          exact hp2
      | exit id => exact ⟨μ', fr', ba', lo', g1, g2, g3, g4⟩
      | goto l => exact ⟨μ', fr', ba', lo', g1, g2, g3, g4⟩
      | ret => exact ⟨μ', fr', ba', lo', g1, g2, g3, g4⟩
      | panic ch => exact ⟨μ', fr', ba', lo', g1, g2, g3, g4⟩
      | outgrown => exact ⟨μ', fr', ba', lo', g1, g2, g3, g4⟩
  | exit id =>
    intro ro nd hno B T
    refine both (fun _ _ _ e => by cases e) ?_
    intro c hc fr ba lo Q h μ w a hr
    cases reads_of hc
    exact wpIn_exit ⟨μ, fr, ba, lo, h, hr, .refl _ _, rfl⟩
  | ret =>
    intro ro nd hno B T
    refine both (fun _ _ _ e => by cases e) ?_
    intro c hc fr ba lo Q h μ w a hr
    cases reads_of hc
    exact wpIn_ret ⟨μ, fr, ba, lo, h, hr, .refl _ _, rfl⟩
  | bad => exact fun ro nd hno B T => both (fun _ _ _ e => by cases e) fun c hc fr ba lo Q h => (show False from h).elim
  | label l =>
    intro ro nd hno B T
    refine both (fun _ _ _ e => by cases e) ?_
    intro c hc fr ba lo Q h μ w a hr
    cases reads_of hc
    exact wpIn_label ⟨μ, fr, ba, lo, h, hr, .refl _ _, rfl⟩
  | goto l ks =>
    intro ro nd hno B T
    refine both (fun _ _ _ e => by cases e) ?_
    intro c hc fr ba lo Q h μ w a hr
    cases reads_of hc
    replace h : projK ks fr fun fr => Q (.goto l) fr ba lo := h
    rw [projK_eq] at h
    exact wpIn_goto ⟨μ, _, ba, lo, h, hr.proj ks, .refl _ _, rfl⟩
  | lab l x y ihx ihy =>
    intro ro nd hno B T
    refine both (fun l' x' y' e => by cases e; exact ⟨(ihx ro nd (noL hno)).1, (ihy ro nd (noE hno)).2⟩) ?_
    intro c hc
    cases reads_of hc
  | scope d ihd =>
    intro ro nd hno B T
    refine both (fun _ _ _ e => by cases e) ?_
    intro c hc fr ba lo Q h μ w a hr
    cases reads_of hc with
    | scope c' x _ h1 h2 =>
      replace h : ∀ R : Nat → FR → List Ob → List Ob → Prop, W P d fr ba lo (scopeQ R Q) := h
      let R : Nat → FR → List Ob → List Ob → Prop := fun l fr' ba' lo' => ba'.length = ba.length → ∀ μ' w' a', Rel N B T μ' w' a' fr' ba' lo' → ScopeAt (FW ro) nd P c' l (Post N B T μ' w' ba.length Q) a' w'
      have conv : ∀ {μ w e a' w'}, Post N B T μ w ba.length (scopeQ R Q) e a' w' → Exit.lab (FW ro) nd P c' (Post N B T μ w ba.length Q) e a' w' := by
        intro μ w e a' w' hp
        obtain ⟨μ', fr', ba', lo', g1, g2, g3, g4⟩ := hp
        cases e with
        | goto l => exact ((show R l fr' ba' lo' from g1) g4 _ _ _ g2).mono fun e a w hp => hp.from g3
        | normal => exact ⟨μ', fr', ba', lo', g1, g2, g3, g4⟩
        | exit id => exact ⟨μ', fr', ba', lo', g1, g2, g3, g4⟩
        | ret => exact ⟨μ', fr', ba', lo', g1, g2, g3, g4⟩
        | panic ch => exact ⟨μ', fr', ba', lo', g1, g2, g3, g4⟩
        | outgrown => exact ⟨μ', fr', ba', lo', g1, g2, g3, g4⟩
      refine wp_scope_lab (wpIn_mono ((ihd ro nd hno).2 c' x (labelsI x) h1 h2 (h R) (fun l r hf fr ba2 lo2 hyp => ?_) hr) fun e a' w' hp => conv hp)
      intro hlen μ' w' a' hrel
      have q := hyp μ' w' a' hrel
      rw [hlen] at q
      exact at_label hf (wpIn_mono q fun e a w hp => conv hp)

  | rangeF ks x ps p q ihp ihq =>
    intro ro nd hno B T
    refine both (fun _ _ _ e => by cases e) ?_
    intro c hc fr ba lo Q h μ w a hr
    have hro : ro = none := by
      rcases hno with h1 | h1
      · exact h1
      · cases h1
    subst hro
    cases reads_of hc with
    | rangeF g _ params assign body _ _ _ hg hcp hcq hps e =>
      subst e
      replace h : rangeS P ks x params.toList (p.noR && q.noR) (W P p) (W P q) fr ba lo Q := h
      simp only [rangeS, projK_eq, evK_eq] at h
      obtain ⟨hnr, h⟩ := h
      rw [colK_eq] at h
      simp only [Bool.and_eq_true] at hnr
      obtain ⟨hnp, hnq⟩ := hnr
      -- the rounds
      have rounds : ∀ (l : Nat) (r : Loop), r.tmps.size = N → r.params = params → r.assign = assign → r.body = body → ∀ (k : Nat) (pl : List PV) (ba' lo' : List Ob) (K : AV → List Ob → List Ob → Prop), roundV k l r params.toList (W P p) (W P q) pl ba' lo' K → YieldVC P l (pl.map .p) ba' lo' K := by
        intro l r hsz hrp hra hrb k pl ba' lo' K hround
        refine ⟨fun n μ2 w2 xs hi2 hx2 => ?_⟩
        unfold roundV at hround
        obtain ⟨o, ho, hround⟩ := atK_out _ _ _ hround
        split at hround
        · rename_i l' r' ks2 cs2
          obtain ⟨⟨e1, e2⟩, hround⟩ := hround
          subst e1; subst e2
          obtain ⟨_, p2, h1, h2, h0, h3⟩ := loop_at hi2 ho
          have h2' : p2 = none := h2
          subst h2'
          obtain ⟨hpl, hround⟩ := setPsK_out _ _ _ _ (zipK_out _ _ _ hround)
          have hsx : xs.size = pl.length := by rw [hx2.1, List.length_map]
          have hpx : xs.size = r'.params.size := by rw [hsx, ← hpl, hrp]; simp
          refine ⟨_, _, _, _, run_yield h1 hpx, roundIn_of_wpIn (F := Fence.wide) trivial ?_⟩
          have hfold : (r'.params.zip xs).foldl (fun tmps (t, a) => tmps.setIfInBounds t a) r'.tmps = (params.toList.zip xs.toList).foldl (fun tmps (p : Nat × Value) => tmps.setIfInBounds p.1 p.2) r'.tmps := by
            rw [hrp, ← Array.foldl_toList]
            simp [Array.toList_zip]
          obtain ⟨v1, v2⟩ := setPs_vals (N := N) (Γ := ⟨blocks μ2, ba'.length, μ2⟩) (w := w2) params.toList pl xs.toList r'.tmps (ks2.zip cs2) hps hsz hpl (by simpa using hsx) (fun j x e g1 g2 => by
            have := hx2.2 j x (.p e) (by simpa using g1) (by rw [List.getElem?_map, g2]; rfl)
            exact this) (zip_vals _ _ h3)
          have hrel2 : Rel N 0 [] μ2 w2 { tmps := (r'.params.zip xs).foldl (fun tmps (t, a) => tmps.setIfInBounds t a) r'.tmps, defers := [] } (setPs params.toList pl (ks2.zip cs2)) ba' lo' := by
            rw [hfold]
            exact ⟨hi2, v1, Nat.zero_le _, .nil, v2⟩
          show Code.wpIn (FW (some l')) n P r'.assign _ _ _
          refine wpIn_mono ((ihp (some l') n (.inr hnp) (B := 0)).1 r'.assign (by rw [hra]; exact hcp) hround hrel2) fun e a3 w3 hp3 => ?_
          obtain ⟨μ3, fr3, ba3, lo3, g1, g2, g3, g4⟩ := hp3
          cases e with
          | normal =>
            obtain ⟨o3, ho3, g1⟩ := atK_out _ _ _ g1
            split at g1
            · rename_i l3 r3 ks3 cs3
              obtain ⟨⟨e1, e2⟩, g1⟩ := g1
              subst e1; subst e2
              obtain ⟨hlt3, g1⟩ := setAtK_out _ _ _ _ g1
              obtain ⟨_, p3, k1, k2, _, _⟩ := loop_at g2.inv ho3
              have k2' : p3 = none := k2
              subst k2'
              obtain ⟨hi4, hle4⟩ := loop_step .busy none g2.inv ho3 rfl
              refine ⟨_, run_beginRound k1 rfl, ?_⟩
              have hrel4 : Rel N 0 [] μ3 (w3.putObj l3 (.loop { r3 with state := .busy, pending := none })) a3 fr3 ba3 (lo3.set k (.loop l3 r3 ks3 cs3 .busy)) :=
                ⟨hi4, g2.size, Nat.zero_le _, g2.defers.mono hle4.stays, fun t => (g2.vals t).mono hle4.stays hle4.above⟩
              show Code.wpIn (FW (some l3)) n P r3.body _ _ _
              refine wpIn_mono ((ihq (some l3) n (.inr hnq) (B := 0)).1 r3.body (by rw [hrb]; exact hcq) g1 hrel4) fun e a5 w5 hp5 => ?_
              obtain ⟨μ5, fr5, ba5, lo5, q1, q2, q3, q4⟩ := hp5
              have fin : ∀ (st : LSt) (b : Bool) (jump : Option Code), roundK k l3 r3 st b K ba5 lo5 → b = jump.isNone → st.state = (if jump.isNone then .ready else .done) → st.pend jump →
                  ∃ v w', (Instr.endRound l3 jump).run P w5 = .ok v w' ∧ ∃ v' r μ' ba' lo', Ending.returned v = .returned v' ∧ VA ⟨blocks μ', ba5.length, μ'⟩ w' v' r ∧ Inv μ' w' ba' lo' ∧ Le μ2 w2 μ' w' ∧ ba'.length = ba5.length ∧ K r ba' lo' := by
                intro st b jump hk hb hst hpd
                unfold roundK at hk
                obtain ⟨o5, ho5, hk⟩ := atK_out _ _ _ hk
                split at hk
                · rename_i l5 r5 ks5 cs5
                  obtain ⟨⟨e1, e2⟩, hk⟩ := hk
                  subst e1; subst e2
                  obtain ⟨_, hk⟩ := setAtK_out _ _ _ _ hk
                  obtain ⟨_, p5, s1, s2, _, _⟩ := loop_at q2.inv ho5
                  obtain ⟨hi6, hle6⟩ := loop_step st jump q2.inv ho5 hpd
                  have hend := run_endRound (P := P) jump s1
                  refine ⟨_, _, hend, _, .p (.bool b), μ5, ba5, _, rfl, by rw [hb]; exact .p _ _ (.bool _), ?_, ?_, rfl, hk⟩
                  · rw [hst] at hi6; exact hi6
                  · rw [hst] at hle6; exact (g3.trans hle4).trans (q3.trans hle6)
                · exact hk.elim
              have hlen5 : ba5.length = ba'.length := q4.trans g4
              rw [hlen5] at fin
              cases e with
              | normal => exact fin .ready true none q1 rfl rfl rfl
              | ret => exact fin (.done .ret) false (some .ret) q1 rfl rfl rfl
              | exit i => exact fin (.done (.exit i)) false (some (.exit i)) q1 rfl rfl rfl
              | goto i => exact fin (.done (.goto i)) false (some (.goto i)) q1 rfl rfl rfl
              | panic ch => exact q1.elim
              | outgrown => exact q1.elim
            · exact g1.elim
          | exit id => exact g1.elim
          | goto l => exact g1.elim
          | ret => exact g1.elim
          | panic ch => exact g1.elim
          | outgrown => exact g1.elim
        · exact hround.elim
      refine wpIn_rangeFunc fun fn _ => ?_
      obtain ⟨rc, hrc⟩ : ∃ rc : Loop, rc = { state := .ready, pending := none, fn := fn, tmps := a.tmps, params := params, assign := assign, body := body, defers := w.heap.size } := ⟨_, rfl⟩
      obtain ⟨w1, hw1⟩ : ∃ w1, w1 = (w.alloc (.deferred (some []))).alloc (.loop rc) := ⟨_, rfl⟩
      have hsz1 : w1.heap.size = w.heap.size + 2 := by rw [hw1]; simp
      have hold : ∀ b, b < w.heap.size → w1.heap[b]? = w.heap[b]? := fun b hb => by
        rw [hw1, heap_alloc_old _ _ b (by simp; omega), heap_alloc_old _ _ b hb]
      have hmark : w1.heap[w.heap.size]? = some (.deferred (some [])) := by
        rw [hw1, heap_alloc_old _ _ _ (by simp)]; exact World.alloc_heap_new w _
      have hloop : w1.heap[w.heap.size + 1]? = some (.loop rc) := by
        rw [hw1]; have := World.alloc_heap_new (w.alloc (.deferred (some []))) (.loop rc); rwa [World.size_alloc] at this
      obtain ⟨hi1, hle1, hat1⟩ := hr.inv.push (w' := w1) (.cells (w.heap.size + 1)) (.loop (w.heap.size + 1) rc ks ((ks.map fun t => (t, getF fr t)).map (·.2)) .ready) (fun b hb => by cases hb; omega) (by rw [hw1]; rfl) (by rw [hw1]; rfl) (by rw [hw1]; rfl) (by omega) hold
        (fun hle => .loop _ rc ks _ .ready none (by rw [hloop, hrc]; rfl) rfl (by simp) fun j t c hj hcj => by
          rw [List.getElem?_map, List.getElem?_map, hj] at hcj
          cases hcj
          rw [hrc]
          exact (hr.vals t).mono hle.stays hle.above)
      replace h := h (w.heap.size + 1) rc
      rw [pushK_eq] at h
      replace h := h (rounds (w.heap.size + 1) rc (by rw [hrc]; exact hr.size) (by rw [hrc]) (by rw [hrc]) (by rw [hrc]) lo.length)
      have hDn : ¬ blocks (μ ++ [.cells (w.heap.size + 1)]) w.heap.size := by
        rintro ⟨i, m, hm, hb⟩
        rcases Nat.lt_or_ge i μ.length with hl | hl
        · rw [List.getElem?_append_left hl] at hm
          have := hr.inv.block_lt ⟨i, m, hm, hb⟩
          omega
        · rw [List.getElem?_append_right hl] at hm
          have : i - μ.length = 0 := by have := get_lt hm; simp at this; omega
          rw [this] at hm
          simp at hm
          subst hm
          simp [MI.block?] at hb
      have hmarks1 : Marks B T (μ ++ [.cells (w.heap.size + 1)]) w1 ({ target := .collected w.heap.size, args := #[] } :: a.defers) := by
        obtain ⟨Ds, d1, d2, d3⟩ := hr.defers
        refine ⟨w.heap.size :: Ds, by rw [d1]; rfl, List.nodup_cons.2 ⟨fun hc => ?_, d2⟩, fun D hD => ?_⟩
        · have := (Array.getElem?_eq_some_iff.1 (d3 _ hc).2.2).1; omega
        · rcases List.mem_cons.1 hD with rfl | hD
          · exact ⟨hr.base, hDn, hmark⟩
          · obtain ⟨g1, g2, g3⟩ := d3 D hD
            obtain ⟨k1, k2⟩ := hle1.stays.2 D (Array.getElem?_eq_some_iff.1 g3).1 g2
            exact ⟨g1, k1, k2.trans g3⟩
      -- behind the call
      have behind : ∀ (f : Nat) (args : Array Value) (as : List AV), CallVC P f as ba (lo ++ [.loop (w.heap.size + 1) rc ks ((ks.map fun t => (t, getF fr t)).map (·.2)) .ready]) (loopEndK lo.length (w.heap.size + 1) rc Q) → VAs ⟨blocks (μ ++ [.cells (w.heap.size + 1)]), ba.length, μ ++ [.cells (w.heap.size + 1)]⟩ w1 args as →
          CallsIn (FW none) (nd - 1) P f args w1 (rangePost (FW none) nd P (w.heap.size + 1) (Post N B T μ w ba.length Q) { a with defers := [{ target := .collected w.heap.size, args := #[] }] ++ a.defers }) := fun f args as hcall hargs => by
        refine (calls_FW none (nd - 1) (hcall.out _ w1 args hi1 hargs)).mono fun e w2 hw2 => ?_
        obtain ⟨v, r, μ2, ba2, lo2, rfl, g1, g2, g3, g4, g5⟩ := hw2
        unfold loopEndK at g5
        obtain ⟨o, ho, g5⟩ := atK_out _ _ _ g5
        split at g5
        · rename_i l' r' ks2 cs2 st
          obtain ⟨⟨e1, e2⟩, g5⟩ := g5
          obtain ⟨hlt, g5⟩ := setAtK_out _ _ _ _ g5
          replace g5 := zipK_out _ _ _ g5
          rw [e1, e2] at ho
          obtain ⟨_, p2, s1, s2, s3, s4⟩ := loop_at g2 ho
          obtain ⟨hi3, hle3⟩ := loop_step .over p2 g2 ho trivial
          have hnb : st ≠ .busy := by intro e; subst e; exact g5
          have hend := run_endLoop (P := P) s1 (by
            show st.state ≠ .busy
            cases st <;> simp [LSt.state] at hnb ⊢)
          have hrel : Rel N B T μ2 (w2.putObj (w.heap.size + 1) (.loop { rc with state := .exhausted, pending := p2 })) { a with defers := [{ target := .collected w.heap.size, args := #[] }] ++ a.defers } (ks2.zip cs2) ba2 (lo2.set lo.length (.loop (w.heap.size + 1) rc ks2 cs2 .over)) := by
            refine ⟨hi3, hr.size, ?_, (hmarks1.mono g3.stays).mono hle3.stays, fun t => ?_⟩
            · exact Nat.le_trans hr.base (Nat.le_trans hle1.stays.1 (Nat.le_trans g3.stays.1 hle3.stays.1))
            · have := zip_vals ks2 cs2 s4 t
              rw [hrc] at this
              exact this.mono hle3.stays hle3.above
          have hle : Le μ w μ2 (w2.putObj (w.heap.size + 1) (.loop { rc with state := .exhausted, pending := p2 })) := hle1.trans (g3.trans hle3)
          refine ⟨p2, _, hend, ?_⟩
          cases st with
          | ready =>
            have s2' : p2 = none := s2
            subst s2'
            exact ⟨μ2, _, ba2, _, g5, hrel, hle, g4⟩
          | done e =>
            have s2' : p2 = some (codeOf e) := s2
            subst s2'
            cases e with
            | ret => exact wpIn_ret ⟨μ2, _, ba2, _, g5, hrel, hle, g4⟩
            | exit i => exact wpIn_exit ⟨μ2, _, ba2, _, g5, hrel, hle, g4⟩
            | goto i => exact wpIn_goto ⟨μ2, _, ba2, _, g5, hrel, hle, g4⟩
            | normal => exact g5.elim
            | panic ch => exact g5.elim
            | outgrown => exact g5.elim
          | busy => exact g5.elim
          | over => exact g5.elim
        · exact g5.elim
      have hv := hr.eval hg
      have henter : (Instr.enterLoop fn a.tmps params assign body (FW none).round).run P w = .ok (w.heap.size + 1, [{ target := .collected w.heap.size, args := #[] }]) w1 := by
        rw [hw1, hrc]; exact run_enterLoop_outer _ _ _ _ _
      unfold rangeCallK at h
      split at h
      · rename_i f e1
        obtain ⟨hen, hcall⟩ := h
        rw [e1] at hv
        have hp := hv.pv
        generalize hx : a.eval g = x at hp
        cases hp
        refine ⟨w.heap.size + 1, [{ target := .collected w.heap.size, args := #[] }], w1, { target := .fn (.func f) #[], args := #[.func (.yield (w.heap.size + 1)) #[] #[]] }, w1, f, #[.func (.yield (w.heap.size + 1)) #[] #[]] ++ #[], w1, henter, ?_, fun _ _ => trivial, ?_, fun e => (by cases e), behind f _ _ hcall ⟨rfl, fun j y c hy hcj => ?_⟩⟩
        · simp only [resolve, hx]
          simp [go_sem]
        · simp [invoke, enters_run hen]
        · match j, hy, hcj with
          | 0, hy, hcj => simp at hy hcj; subst hy; subst hcj; exact .p _ _ (.fn _)
      · rename_i f cap e1
        obtain ⟨hen, hcall⟩ := h
        rw [e1] at hv
        generalize hx : a.eval g = x at hv
        cases hv with
        | clos _ xs ys _ _ h1 h2 h3 h4 =>
          have hxs : xs = #[] := by simpa using h1
          subst hxs
          refine ⟨w.heap.size + 1, [{ target := .collected w.heap.size, args := #[] }], w1, { target := .fn (.func f) ys, args := #[.func (.yield (w.heap.size + 1)) #[] #[]] }, w1, f, #[.func (.yield (w.heap.size + 1)) #[] #[]] ++ ys, w1, henter, ?_, fun _ _ => trivial, ?_, fun e => (by cases e), behind f _ _ hcall ⟨by simp [h2]; omega, fun j y c hy hcj => ?_⟩⟩
          · simp only [resolve, hx]
            simp [go_sem]
          · simp [invoke, enters_run hen]
          · cases j with
            | zero =>
              rw [Array.getElem?_append_left (by simp)] at hy
              simp at hy hcj; subst hy; subst hcj; exact .p _ _ (.fn _)
            | succ j =>
              rw [Array.getElem?_append_right (by simp)] at hy
              exact (h4 j y c (by simpa using hy) (by simpa using hcj)).mono hle1.stays hle1.above
      · exact h.elim

/-- THE READING OF A PIECE OF CODE IS RIGHT. -/
theorem W_sound {own : List Nat} (hm : P.follows .mixedOrders = true) (nd : Nat) (ic : IC) (c : Code) (hc : compC P N own c = some ic.bare) {fr : FR} {ba lo : List Ob} {Q : Exit → FR → List Ob → List Ob → Prop} (h : W P ic fr ba lo Q)
    {μ : List MI} {w : World} {a : Act} (hr : Rel N B T μ w a fr ba lo) : c.wpIn (FW none) nd P (Post N B T μ w ba.length Q) a w := (W_both hm ic none nd (.inl rfl)).1 c hc h hr

/-! #### functions -/

theorem frameOf_get : ∀ (l : List AV) (n t : Nat), getF (frameOf n l) t = if n ≤ t then (l[t - n]?).getD (.p .undef) else .p .undef
  | [], n, t => by simp [frameOf, getF]
  | a :: r, n, t => by
    simp only [frameOf, getF]
    by_cases h : n = t
    · subst h; simp
    · rw [beq_ne h]
      simp only [cond_false]
      rw [frameOf_get r (n + 1) t]
      by_cases h2 : n + 1 ≤ t
      · rw [if_pos h2, if_pos (by omega), show t - n = (t - (n + 1)) + 1 by omega]; rfl
      · rw [if_neg h2, if_neg (by omega)]

/-- What a result's variable holds. -/
def resRun (tmps : Array Value) (r : ResultVar) : Sem Value :=
  match r with
  | .tmp t => pure (tmps.getD t undef)
  | .cell a t => do loadVar t (← asAddr (tmps.getD a undef))

theorem results_eq (fn : Func) (tmps : Array Value) : results fn tmps = (do
    let vs ← fn.results.mapM (resRun tmps)
    pure (if h : vs.size = 1 then vs[0] else .tuple vs)) := by
  unfold results
  congr 2

theorem ressK_out : ∀ (rs : List ResultVar) (irs : List IRes), compR P rs = some irs → ∀ {μ : List MI} {w : World} {a : Act} {fr : FR} {ba lo : List Ob} {K : List AV → Prop}, ressK fr ba lo irs K → Rel N B T μ w a fr ba lo →
    ∃ (as : List AV) (vs : List Value), K as ∧ (rs.mapM (resRun a.tmps)).run P w = .ok vs w ∧ vs.length = as.length ∧ ∀ (j : Nat) (x : Value) (c : AV), vs[j]? = some x → as[j]? = some c → VA ⟨blocks μ, ba.length, μ⟩ w x c
  | [], irs, hc, μ, w, a, fr, ba, lo, K, h, hr => by
    cases hc
    exact ⟨[], [], h, rfl, rfl, fun j x c hx => by simp at hx⟩
  | r :: rs, irs, hc, μ, w, a, fr, ba, lo, K, h, hr => by
    have next : ∀ {irs' : List IRes} {v : AV} {c : Value}, compR P rs = some irs' → (resRun a.tmps r).run P w = .ok c w → VA ⟨blocks μ, ba.length, μ⟩ w c v → ressK fr ba lo irs' (fun as => K (v :: as)) →
        ∃ (as : List AV) (vs : List Value), K as ∧ ((r :: rs).mapM (resRun a.tmps)).run P w = .ok vs w ∧ vs.length = as.length ∧ ∀ (j : Nat) (x : Value) (c : AV), vs[j]? = some x → as[j]? = some c → VA ⟨blocks μ, ba.length, μ⟩ w x c := fun {irs' v c} h1 h2 h3 h4 => by
      obtain ⟨as, vs, g1, g2, g3, g4⟩ := ressK_out rs irs' h1 h4 hr
      refine ⟨v :: as, c :: vs, g1, ?_, by simp [g3], fun j x e hx he => ?_⟩
      · simp only [List.mapM_cons, Sem.run_bind, h2, Result.andThen, g2, Sem.run_pure]
      · cases j with
        | zero => simp at hx he; subst hx; subst he; exact h3
        | succ j => exact g4 j x e (by simpa using hx) (by simpa using he)
    cases r with
    | tmp t =>
      simp only [compR] at hc
      obtain ⟨irs', h1, rfl⟩ := map_some hc
      simp only [ressK, resK, getK_eq] at h
      exact next h1 rfl (hr.vals t) h
    | cell t ty =>
      simp only [compR] at hc
      split at hc
      · rename_i n irs' h0 h1
        cases hc
        simp only [ressK, resK, getK_eq] at h
        split at h
        · rename_i m off e
          obtain ⟨o, ho, h⟩ := atK_out _ _ _ h
          split at h
          · rename_i cs
            obtain ⟨hl, h⟩ := dropK_out _ _ _ h
            obtain ⟨v, hk, hrd⟩ := readA_out h0 h
            have hv := hr.vals t
            rw [e] at hv
            obtain ⟨mi, g1, g2⟩ := hr.inv.at_l ho
            obtain ⟨b, xs, t', rfl, g3, g4, g5, g6⟩ := g2.acells
            have g7 := ref_inv hv g1
            obtain ⟨c, g8, g9⟩ := hrd _ w b (0 + off) (g6.drop off)
            rw [Nat.zero_add] at g8
            refine next h1 ?_ g9 hk
            simp only [resRun, Sem.run_bind]
            rw [g7]
            exact g8
          · exact h.elim
        · exact h.elim
      · cases hc

/-! #### what is handed back -/

/-- It stands for the same when the call's own objects are forgotten. -/
def Kept (μ : List MI) (w : World) (n0 : Nat) (a a' : AV) : Prop := ∀ v, VA ⟨blocks μ, n0, μ⟩ w v a → VA ⟨blocks (μ.take n0), n0, μ.take n0⟩ w v a'

theorem stays_take (μ : List MI) (w : World) (n : Nat) : Stays (blocks μ) w (blocks (μ.take n)) w := ⟨Nat.le_refl _, fun b _ hb => ⟨fun hc => hb (blocks_take hc), rfl⟩⟩

theorem frzK_out {μ : List MI} {w : World} {ba lo : List Ob} (hi : Inv μ w ba lo) {a : AV} {K : AV → Prop} (h : frzK lo a K) : ∃ a', K a' ∧ Kept μ w ba.length a a' ∧ (a.scalar = true → a'.scalar = true) := by
  have loc : ∀ {k : Nat} {m : MI} {b : Nat}, Ctx.at ⟨blocks μ, ba.length, μ⟩ (.l k) = some m → m.block? = some b → ¬ blocks (μ.take ba.length) b := fun {k m b} h1 h2 ⟨i, m', h3, h4⟩ => by
    have h1' : μ[ba.length + k]? = some m := h1
    have e := hi.apart i (ba.length + k) m' m b (take_get h3) h1' h4 h2
    have := get_lt h3
    rw [List.length_take] at this
    omega
  have low : ∀ {a : AV}, a.lowL 0 = true → Kept μ w ba.length a a := fun {a} hl v hv => by
    have := hv.to_takeN (n := 0) (stays_take μ w ba.length) hl
    simpa using this
  unfold frzK at h
  split at h
  · exact ⟨_, h, low rfl, fun h => h⟩
  · rename_i m g sz len
    obtain ⟨o, ho, h⟩ := atK_out _ _ _ h
    split at h
    · rename_i g' sz' es
      obtain ⟨⟨rfl, rfl⟩, h⟩ := h
      obtain ⟨mi, h1, h2⟩ := hi.at_l ho
      obtain ⟨mi, h1, h2⟩ := hi.at_l ho
      rcases h with ⟨ys, hl, hys, hk⟩ | ⟨ys, sp, ⟨h0, h00⟩, he, hl, hk⟩
      · refine ⟨_, hk, fun v hv => .p _ _ ?_, fun _ => rfl⟩
        subst hys
        rcases h2.row with ⟨n, rfl, rfl⟩ | ⟨b, xs, t, rfl, h3, h4, h5⟩
        · rcases view_inv hv h1 with ⟨_, rfl, rfl⟩ | ⟨_, _, h6, _⟩
          · simpa using VP.list0 _ none 0 fun _ => rfl
          · cases h6
        · rcases view_inv hv h1 with ⟨h6, _⟩ | ⟨b', cap, h6, rfl, h7, h8⟩
          · cases h6
          · cases h6
            have hr := ((row_at h3 h5).take len).mono (stays_take μ w ba.length)
            have := VP.of_row (cap := cap) hr (loc h1 rfl) (hi.block_lt ⟨_, _, h1, rfl⟩) (by rw [List.length_take]; omega)
            rwa [List.length_take, Nat.min_eq_left hl] at this
      · refine ⟨_, hk, fun v hv => .p _ _ ?_, fun _ => rfl⟩
        subst hl
        rcases h2.row with ⟨n, rfl, rfl⟩ | ⟨b, xs, t, rfl, h3, h4, h5⟩
        · simp at h00
        · rcases view_inv hv h1 with ⟨h6, _⟩ | ⟨b', cap, h6, rfl, h7, h8⟩
          · cases h6
          · cases h6
            have hr := (row_at h3 h5).mono (stays_take μ w ba.length)
            rw [he] at hr
            refine VP.of_lent hr (loc h1 rfl) (hi.block_lt ⟨_, _, h1, rfl⟩) ?_
            rw [← he]
            rw [← h8] at h4
            exact Nat.le_of_mul_le_mul_right h4 h0
    · exact h.elim
  · rename_i m
    obtain ⟨o, ho, h⟩ := atK_out _ _ _ h
    split at h
    · rename_i cs
      rcases allPK_out _ _ _ h with ⟨ps, rfl, hk⟩ | h
      · refine ⟨_, hk, fun v hv => .p _ _ ?_, fun _ => rfl⟩
        obtain ⟨mi, h1, h2⟩ := hi.at_l ho
        obtain ⟨b, xs, t', rfl, g3, g4, g5, c, g6⟩ := h2.acells
        rw [ref_inv hv h1]
        refine VP.of_pcells ⟨c, fun j e he => ?_⟩ (loc h1 rfl) (hi.block_lt ⟨_, _, h1, rfl⟩)
        obtain ⟨k1, k2, k3⟩ := g6 j (.p e) (by rw [List.getElem?_map, he]; rfl)
        exact ⟨k1, k2, k3.pv.mono (stays_take μ w ba.length)⟩
      · exact h.elim
    · exact h.elim
  · exact ⟨_, h, low rfl, fun h => h⟩
  · exact ⟨_, h, low rfl, fun h => h⟩
  · exact ⟨_, h, low rfl, fun h => h⟩
  · exact h.elim

theorem frzsK_out {μ : List MI} {w : World} {ba lo : List Ob} (hi : Inv μ w ba lo) : ∀ (as : List AV) {K : List AV → Prop}, frzsK lo as K → ∃ as', K as' ∧ as.length = as'.length ∧ ∀ (j : Nat) (a a' : AV), as[j]? = some a → as'[j]? = some a' → Kept μ w ba.length a a'
  | [], K, h => ⟨[], h, rfl, fun j a a' e => by simp at e⟩
  | a :: r, K, h => by
    obtain ⟨a1, h, h1, _⟩ := frzK_out hi h
    obtain ⟨as, h, h2, h3⟩ := frzsK_out hi r h
    refine ⟨a1 :: as, h, by simp [h2], fun j x y hx hy => ?_⟩
    cases j with
    | zero => simp at hx hy; subst hx; subst hy; exact h1
    | succ j => exact h3 j x y (by simpa using hx) (by simpa using hy)

theorem frz1K_out {μ : List MI} {w : World} {ba lo : List Ob} (hi : Inv μ w ba lo) {a : AV} {K : AV → Prop} (h : frz1K lo a K) : ∃ a', K a' ∧ Kept μ w ba.length a a' := by
  unfold frz1K at h
  split at h
  · rename_i cs
    obtain ⟨cs', h, h1, h2⟩ := frzsK_out hi cs h
    obtain ⟨a', h3, hk⟩ := mkAggK_out h
    refine ⟨a', hk, fun v hv => ?_⟩
    cases hv with
    | agg xs _ k1 k2 k3 =>
      refine VA.of_agg ⟨by omega, fun j x c hx hc => ?_⟩ k3 h3
      have hj : j < cs.length := by have := get_lt hc; omega
      exact h2 j cs[j] c (List.getElem?_eq_getElem hj) hc x (k2 j x cs[j] hx (List.getElem?_eq_getElem hj))
  · obtain ⟨a', h1, h2, _⟩ := frzK_out hi h
    exact ⟨a', h1, h2⟩

theorem frz1sK_out {μ : List MI} {w : World} {ba lo : List Ob} (hi : Inv μ w ba lo) : ∀ (as : List AV) {K : List AV → Prop}, frz1sK lo as K → ∃ as', K as' ∧ as.length = as'.length ∧ ∀ (j : Nat) (a a' : AV), as[j]? = some a → as'[j]? = some a' → Kept μ w ba.length a a'
  | [], K, h => ⟨[], h, rfl, fun j a a' e => by simp at e⟩
  | a :: r, K, h => by
    obtain ⟨a1, h, h1⟩ := frz1K_out hi h
    obtain ⟨as, h, h2, h3⟩ := frz1sK_out hi r h
    refine ⟨a1 :: as, h, by simp [h2], fun j x y hx hy => ?_⟩
    cases j with
    | zero => simp at hx hy; subst hx; subst hy; exact h1
    | succ j => exact h3 j x y (by simpa using hx) (by simpa using hy)

theorem ret_out {fn : Func} {irs : List IRes} (hc : compR P fn.results.toList = some irs) {μ : List MI} {w : World} {a : Act} {fr : FR} {ba lo : List Ob} {K : AV → List Ob → Prop} (h : retK fr ba lo irs K) (hr : Rel N B T μ w a fr ba lo) :
    ∃ v r, (results fn a.tmps).run P w = .ok v w ∧ K r ba ∧ Inv (μ.take ba.length) w ba [] ∧ VA ⟨blocks (μ.take ba.length), ba.length, μ.take ba.length⟩ w v r := by
  obtain ⟨as, vs, h1, h2, h3, h4⟩ := ressK_out _ _ hc h hr
  obtain ⟨as', h5, h6, h7⟩ := frz1sK_out hr.inv as h1
  have hinv : Inv (μ.take ba.length) w ba [] := by simpa using hr.inv.trunc (n := 0) (Nat.zero_le _) rfl
  have hrun : (results fn a.tmps).run P w = .ok (if h : vs.toArray.size = 1 then vs.toArray[0] else .tuple vs.toArray) w := by
    rw [results_eq]
    have : fn.results.mapM (resRun a.tmps) = (do let l ← fn.results.toList.mapM (resRun a.tmps); pure l.toArray) := by
      rw [Array.mapM_eq_mapM_toList]
      rfl
    rw [this]
    simp only [Sem.run_bind, h2, Result.andThen, Sem.run_pure]
  have vals : ∀ (j : Nat) (x : Value) (c : AV), vs[j]? = some x → as'[j]? = some c → VA ⟨blocks (μ.take ba.length), ba.length, μ.take ba.length⟩ w x c := fun j x c hx hcj => by
    have hj : j < as.length := by have := get_lt hcj; omega
    exact h7 j as[j] c (List.getElem?_eq_getElem hj) hcj x (h4 j x as[j] hx (List.getElem?_eq_getElem hj))
  split at h5
  · rename_i r
    have hl : vs.length = 1 := by rw [h3, h6]; rfl
    obtain ⟨v, rfl⟩ := List.length_eq_one_iff.1 hl
    exact ⟨v, r, hrun, h5, hinv, vals 0 v r rfl rfl⟩
  · rename_i h8
    obtain ⟨r, h9, hk⟩ := mkTupK_out h5
    have hl : vs.toArray.size ≠ 1 := by
      intro e
      have e' : as'.length = 1 := by rw [← h6, ← h3]; simpa using e
      obtain ⟨x, rfl⟩ := List.length_eq_one_iff.1 e'
      exact h8 x rfl
    rw [dif_neg hl] at hrun
    exact ⟨_, r, hrun, hk, hinv, VA.of_tup ⟨by simp; omega, fun j x c hx hcj => vals j x c (by simpa using hx) hcj⟩ h9⟩

/-- THE READING OF A FUNCTION IS RIGHT. -/
theorem sound {own : List Nat} {f : Nat} {ir : IF} {args : List AV} {H : List Ob} {Q : AV → List Ob → Prop} (hc : compF P own f = some ir.bare) (h : fnV P ir args H Q) : callA P f args H Q := by
  intro μ w xs hi hx
  unfold compF at hc
  split at hc
  · cases hc
  · rename_i fn hfn
    split at hc
    · cases hc
    · rename_i c hbody
      split at hc
      · rename_i ic rs hic hrs
        split at hc
        · rename_i hcond
          obtain ⟨hpar, _, hm⟩ := hcond
          have hc := Option.some.inj hc
          have e1 : ic = ir.body.bare := congrArg IF.body hc
          have e2 : rs = ir.res := congrArg IF.res hc
          have e3 : fn.params.size + fn.nfree = ir.params := congrArg IF.params hc
          subst e1
          subst e2
          unfold fnV at h
          cases hb : Nat.beq args.length ir.params with
          | false => rw [hb] at h; exact h.elim
          | true =>
            rw [hb] at h
            have hlen : args.length = ir.params := Nat.eq_of_beq_eq_true hb
            have h : W P ir.body (frameOf 0 args) H [] (endQ ir Q) := h
            have hsz : xs.size = args.length := hx.1
            have hrel : Rel fn.ntmps w.heap.size [] μ w { tmps := xs ++ Array.replicate (fn.ntmps - xs.size) undef, defers := [] } (frameOf 0 args) H [] := by
              refine ⟨hi, by simp; omega, Nat.le_refl _, .nil, fun t => ?_⟩
              rw [frameOf_get, if_pos (Nat.zero_le _), Nat.sub_zero]
              simp only [Array.getD_eq_getD_getElem?]
              rcases Nat.lt_or_ge t args.length with ht | ht
              · rw [Array.getElem?_append_left (by omega), Array.getElem?_eq_getElem (by omega), List.getElem?_eq_getElem ht]
                exact hx.2 t _ _ (Array.getElem?_eq_getElem (by omega)) (List.getElem?_eq_getElem ht)
              · rw [List.getElem?_eq_none (by omega)]
                exact .p _ _ (.undef _)
            refine callsIn_wide.1 (callsIn_of_wp_marks (F := FW none) (n := 0) hfn hbody trivial (wpIn_mono (W_sound hm 0 ir.body c hic h hrel) fun e a' w' hp => ?_))
            obtain ⟨μ', fr', ba', lo', g1, g2, g3, g4⟩ := hp
            have fin : retK fr' ba' lo' ir.res Q → LeavesInM (FW none) 0 P fn a'.tmps (fun e w' => ∃ (v : Value) (r : AV) (H' : List Ob) (μ' : List MI), e = .returned v ∧ Q r H' ∧ Inv μ' w' H' [] ∧ VA ⟨blocks μ', H'.length, μ'⟩ w' v r ∧ Le μ w μ' w') a'.defers .returning w' := fun g1 => by
              obtain ⟨Ds, d1, d2, d3⟩ := g2.defers
              rw [d1, List.append_nil]
              refine leaves_marks Ds d2 (fun D hD => (d3 D hD).2.2) ?_
              obtain ⟨q1, q2⟩ := Rel.shut (a := a') Ds d2 d3 ⟨g2.inv, g2.size, g2.base, .nil, g2.vals⟩ g3
              obtain ⟨v, r, k1, k2, k3, k4⟩ := ret_out hrs g1 q1
              refine ⟨v, k1, v, r, ba', _, rfl, k2, k3, k4, ?_⟩
              have hl : ba'.length = μ.length := by rw [g4, hi.len]; rfl
              rw [hl]
              exact q2.trunc
            cases e with
            | normal => exact fin g1
            | ret => exact fin g1
            | exit id => exact g1.elim
            | goto l => exact g1.elim
            | panic ch => exact g1.elim
            | outgrown => exact g1.elim
        · cases hc
      · cases hc

end
end Go.Proofs.Ytemfnlidinnniaa.AD

namespace Go.Proofs.Ytemfnlidinnniaa.AD
set_option linter.unusedVariables false
section
variable {P : Program}

theorem CallVC.pureF {f : Nat} {args : List AV} {ba lo : List Ob} {K : AV → List Ob → List Ob → Prop} {e : PV} (h : pureF P f args (.p e)) (ha : AV.closes ba.length args = args) (k : K (.p e) ba lo) : CallVC P f args ba lo K :=
  .pure (by rw [ha]; exact h _) k

theorem CallD.pureF {f : Nat} {args : List AV} {ba lo : List Ob} {K : AV → List Ob → List Ob → Prop} {e : PV} (h : pureF P f args (.p e)) (ha : AV.closes ba.length args = args) (k : K (.p e) ba lo) : CallD P f args ba lo K :=
  ⟨e, fun X => by rw [ha]; exact h _, k⟩

theorem pureF_of {own : List Nat} {f : Nat} {ir : IF} {args : List AV} {r : AV} (hc : compF P own f = some ir.bare) (h : ∀ H, fnV P ir args H fun r' H' => r' = r ∧ H' = H) : pureF P f args r :=
  fun H => sound hc (h H)

/-! ### one value for another -/

/-- Whatever stands for the one stands for the other. -/
def PV.le (a b : PV) : Prop := ∀ (M : Nat → Prop) (w : World) (v : Value), VP M w v a → VP M w v b

theorem PV.le.refl (a : PV) : a.le a := fun _ _ _ h => h
theorem PV.le.trans {a b c : PV} (h : a.le b) (k : b.le c) : a.le c := fun M w v hv => k M w v (h M w v hv)

/-- Rows of such. -/
inductive PV.les : List PV → List PV → Prop
  | nil : PV.les [] []
  | cons (a b : PV) (as bs : List PV) : a.le b → PV.les as bs → PV.les (a :: as) (b :: bs)

theorem PV.les.refl : ∀ (l : List PV), PV.les l l
  | [] => .nil
  | a :: r => .cons a a r r (.refl a) (.refl r)
theorem PV.les.length {as bs : List PV} (h : PV.les as bs) : as.length = bs.length := by
  induction h with
  | nil => rfl
  | cons _ _ _ _ _ _ ih => simp [ih]
theorem PV.les.get {as bs : List PV} (h : PV.les as bs) : ∀ (j : Nat) (b : PV), bs[j]? = some b → ∃ a, as[j]? = some a ∧ a.le b := by
  induction h with
  | nil => intro j b e; simp at e
  | cons a b' as bs h _ ih =>
    intro j b e
    cases j with
    | zero => simp at e; subst e; exact ⟨a, rfl, h⟩
    | succ j => exact ih j b (by simpa using e)

theorem PV.le.agg {as bs : List PV} (h : PV.les as bs) : PV.le (.agg as) (.agg bs) := by
  intro M w v hv
  cases hv with
  | agg xs _ h1 h2 h3 =>
    refine .agg xs bs (by rw [h1, h.length]) (fun j x c hx hc => ?_) h3
    obtain ⟨a, ha, hl⟩ := h.get j c hc
    exact hl M w x (h2 j x a hx ha)
theorem PV.le.tup {as bs : List PV} (h : PV.les as bs) : PV.le (.tup as) (.tup bs) := by
  intro M w v hv
  cases hv with
  | tup xs _ h1 h2 =>
    refine .tup xs bs (by rw [h1, h.length]) (fun j x c hx hc => ?_)
    obtain ⟨a, ha, hl⟩ := h.get j c hc
    exact hl M w x (h2 j x a hx ha)
theorem PV.le.list {sz : Nat} {as bs : List PV} (h : PV.les as bs) : PV.le (.list sz as) (.list sz bs) := by
  intro M w v hv
  cases hv with
  | list0 sz A cap h0 => cases h; exact .list0 sz A cap h0
  | list b off cap _ _ c h1 h2 h3 h4 h5 h6 =>
    rw [h.length]
    rw [h.length] at h3
    refine .list b off cap sz bs c h1 h2 h3 (fun j e he => ?_) (fun j e he => ?_) (fun j e he => ?_)
    · obtain ⟨a, ha, hl⟩ := h.get j e he; exact h4 j a ha
    · obtain ⟨a, ha, hl⟩ := h.get j e he; exact h5 j a ha
    · obtain ⟨a, ha, hl⟩ := h.get j e he; exact hl M w _ (h6 j a ha)
theorem PV.le.lent {sz : Nat} {as sp bs : List PV} (h : PV.les as bs) : PV.le (.lent sz as sp) (.list sz bs) := by
  intro M w v hv
  cases hv with
  | lent b off cap _ _ _ c h1 h2 h3 h4 h5 h6 =>
    have up : ∀ {j : Nat} {a : PV}, as[j]? = some a → (as ++ sp)[j]? = some a := fun {j a} ha => by rw [List.getElem?_append_left (get_lt ha)]; exact ha
    rw [List.length_append, h.length] at h3
    rw [h.length]
    refine .list b off cap sz bs c h1 h2 (by omega) (fun j e he => ?_) (fun j e he => ?_) (fun j e he => ?_)
    · obtain ⟨a, ha, hl⟩ := h.get j e he; exact h4 j a (up ha)
    · obtain ⟨a, ha, hl⟩ := h.get j e he; exact h5 j a (up ha)
    · obtain ⟨a, ha, hl⟩ := h.get j e he; exact hl M w _ (h6 j a (up ha))
theorem PV.le.nils (sz : Nat) : PV.le .nils (.list sz []) := by
  intro M w v hv
  cases hv with
  | nils => exact .list0 sz none 0 fun _ => rfl

inductive AVles : List AV → List AV → Prop
  | nil : AVles [] []
  | same (a : AV) (as bs : List AV) : AVles as bs → AVles (a :: as) (a :: bs)
  | p (a b : PV) (as bs : List AV) : a.le b → AVles as bs → AVles (.p a :: as) (.p b :: bs)

theorem AVles.out {as bs : List AV} (h : AVles as bs) : as.length = bs.length ∧ ∀ (j : Nat) (b : AV), bs[j]? = some b → ∃ a, as[j]? = some a ∧ ∀ Γ w v, VA Γ w v a → VA Γ w v b := by
  induction h with
  | nil => exact ⟨rfl, fun j b e => by simp at e⟩
  | same a as bs _ ih =>
    refine ⟨by simp [ih.1], fun j b e => ?_⟩
    cases j with
    | zero => simp at e; subst e; exact ⟨a, rfl, fun _ _ _ h => h⟩
    | succ j => exact ih.2 j b (by simpa using e)
  | p a b' as bs hl _ ih =>
    refine ⟨by simp [ih.1], fun j b e => ?_⟩
    cases j with
    | zero => simp at e; subst e; exact ⟨_, rfl, fun _ _ _ h => .p _ _ (hl _ _ _ h.pv)⟩
    | succ j => exact ih.2 j b (by simpa using e)

/-- What is shown for plainer arguments holds for richer ones. -/
theorem callA.args {f : Nat} {as bs : List AV} {H : List Ob} {Q : AV → List Ob → Prop} (h : callA P f bs H Q) (hl : AVles as bs) : callA P f as H Q := by
  obtain ⟨h1, h2⟩ := hl.out
  intro μ w xs hi hx
  refine h μ w xs hi ⟨by rw [hx.1, h1], fun j x b hj hb => ?_⟩
  obtain ⟨a, ha, hv⟩ := h2 j b hb
  exact hv _ _ _ (hx.2 j x a hj ha)
theorem pureF.args {f : Nat} {as bs : List AV} {r : AV} (h : pureF P f bs r) (hl : AVles as bs) : pureF P f as r := fun H => (h H).args hl

theorem pureF.to {f : Nat} {as : List AV} {r r' : PV} (h : pureF P f as (.p r)) (hl : r.le r') : pureF P f as (.p r') := fun H μ w xs hi hx => by
  refine Calls.mono' (h H μ w xs hi hx) ?_
  rintro e w' ⟨v, r1, H', μ', g1, ⟨rfl, rfl⟩, g3, g4, g5⟩
  exact ⟨v, _, H', μ', g1, ⟨rfl, rfl⟩, g3, .p _ _ (hl _ _ _ g4.pv), g5⟩


theorem drop_cons {α : Type} {xs : List α} {i : Nat} {r : List α} {a : α} (h : xs.drop i = a :: r) : xs[i]? = some a ∧ xs.drop (i + 1) = r ∧ i < xs.length := by
  have hg : xs[i]? = some a := by
    have : (xs.drop i)[0]? = some a := by rw [h]; rfl
    rwa [List.getElem?_drop] at this
  refine ⟨hg, ?_, get_lt hg⟩
  have : xs.drop (i + 1) = (xs.drop i).drop 1 := by rw [List.drop_drop]
  rw [this, h]; rfl
theorem drop_nil {α : Type} {xs : List α} {i : Nat} (h : xs.drop i = []) : xs.length ≤ i := List.drop_eq_nil_iff.1 h

theorem ba_toList (s : ByteArray) : s.toList = s.data.toList := by
  have loop : ∀ (n i : Nat) (r : List UInt8), s.size - i = n → ByteArray.toList.loop s i r = r.reverse ++ s.data.toList.drop i := by
    intro n
    induction n with
    | zero =>
      intro i r h
      unfold ByteArray.toList.loop
      rw [if_neg (by omega), List.drop_eq_nil_iff.2 (by simp; show s.size ≤ i; omega)]
      simp
    | succ n ih =>
      intro i r h
      unfold ByteArray.toList.loop
      have hi : i < s.size := by omega
      rw [if_pos hi, ih (i + 1) _ (by omega)]
      have hi' : i < s.data.toList.length := by simp; exact hi
      rw [List.drop_eq_getElem_cons hi']
      simp [ByteArray.get!, getElem!_pos, hi]
  unfold ByteArray.toList
  rw [loop _ 0 [] rfl]
  simp
theorem ba_ext {a b : ByteArray} : a.toList = b.toList ↔ a.data.toList = b.data.toList := by rw [ba_toList, ba_toList]
theorem ba_size (s : ByteArray) : s.size = s.data.toList.length := by rw [Array.length_toList]; rfl

end
end Go.Proofs.Ytemfnlidinnniaa.AD

namespace Go.Proofs.Ytemfnlidinnniaa.AD
set_option linter.unusedVariables false
section
variable {P : Program}

/-- Values without places. -/
inductive Flat : PV → Prop
  | undef : Flat .undef
  | bool (b : Bool) : Flat (.bool b)
  | int (k : IntKind) (n : Int) : Flat (.int k n)
  | str (s : ByteArray) : Flat (.str s)
  | nils : Flat .nils
  | nilp : Flat .nilp
  | fn (f : Fn) : Flat (.fn f)
  | nilf : Flat .nilf
  | nilm : Flat .nilm
  | nili : Flat .nili
  | agg (cs : List PV) : (∀ c, c ∈ cs → Flat c) → Flat (.agg cs)
  | tup (cs : List PV) : (∀ c, c ∈ cs → Flat c) → Flat (.tup cs)

theorem VP.anywhere {M M' : Nat → Prop} {w w' : World} {v : Value} {e : PV} (h : VP M w v e) : Flat e → VP M' w' v e := by
  induction h with
  | undef v => intro _; exact .undef v
  | bool b => intro _; exact .bool b
  | int k n => intro _; exact .int k n
  | str s => intro _; exact .str s
  | agg xs cs h1 _ h3 ih =>
    intro hf
    cases hf with
    | agg _ hc => exact .agg xs cs h1 (fun j x c hx he => ih j x c hx he (hc c (List.mem_of_getElem? he))) h3
  | tup xs cs h1 _ ih =>
    intro hf
    cases hf with
    | tup _ hc => exact .tup xs cs h1 (fun j x c hx he => ih j x c hx he (hc c (List.mem_of_getElem? he)))
  | nils => intro _; exact .nils
  | nilp => intro _; exact .nilp
  | fn f => intro _; exact .fn f
  | nilf => intro _; exact .nilf
  | nilm => intro _; exact .nilm
  | nili => intro _; exact .nili
  | list0 => intro hf; cases hf
  | list => intro hf; cases hf
  | lent => intro hf; cases hf
  | ptr => intro hf; cases hf
  | iface => intro hf; cases hf

/-- Where an object stands. -/
def findO (ba lo : List Ob) : Rf → Option Ob
  | .l k => lo[k]?
  | .b id => ba[id]?

/-- A value, and what it is while nobody writes. -/
inductive Lend (ba lo : List Ob) : AV → PV → Prop
  | p (v : PV) : Lend ba lo (.p v) v
  | view (r : Rf) (g sz len : Nat) (es : List PV) : findO ba lo r = some (.buf g sz es) → len ≤ es.length → Lend ba lo (.view r g sz len) (.list sz (es.take len))
  | refL (k : Nat) (cs : List AV) (ps : List PV) : lo[k]? = some (.cells cs) → cs.length = ps.length → (∀ (j : Nat) (c : AV) (p : PV), cs[j]? = some c → ps[j]? = some p → Lend ba lo c p) → Lend ba lo (.ref (.l k) 0) (.ptr ps)
  | refB (id : Nat) (ps : List PV) : ba[id]? = some (.cells (ps.map .p)) → Lend ba lo (.ref (.b id) 0) (.ptr ps)
  | agg (cs : List AV) (ps : List PV) : cs.length = ps.length → (∀ (j : Nat) (c : AV) (p : PV), cs[j]? = some c → ps[j]? = some p → Lend ba lo c p) → Lend ba lo (.agg cs) (.agg ps)

theorem Lend.close {ba lo : List Ob} {a : AV} {p : PV} (h : Lend ba lo a p) : ∀ (μ : List MI) (w : World), Inv μ w (flat ba lo) [] → ∀ v, VA ⟨blocks μ, (flat ba lo).length, μ⟩ w v (a.close ba.length) → VP (fun _ => False) w v p := by
  have fresh : ∀ (μ : List MI) (w : World), Stays (blocks μ) w (fun _ => False) w := fun μ w => ⟨Nat.le_refl _, fun _ _ _ => ⟨fun h => h, rfl⟩⟩
  induction h with
  | p v => intro μ w hi x hx; exact hx.pv.mono (fresh μ w)
  | view r g sz len es hf hl =>
    intro μ w hi x hx
    have hfl : ∃ id, r.close ba.length = .b id ∧ (flat ba lo)[id]? = some (.buf g sz es) := by
      cases r with
      | l k => exact ⟨ba.length + k, rfl, by rw [flat, List.getElem?_append_right (by omega), Nat.add_sub_cancel_left, List.getElem?_map, show lo[k]? = _ from hf]; rfl⟩
      | b id => exact ⟨id, rfl, by rw [flat, List.getElem?_append_left (get_lt hf)]; exact hf⟩
    obtain ⟨id, h1, h2⟩ := hfl
    rw [AV.close, h1] at hx
    obtain ⟨m, hm, hok⟩ := hi.bases id _ h2
    have hlt := get_lt h2
    have hat : Ctx.at ⟨blocks μ, (flat ba lo).length, μ⟩ (.b id) = some m := by rw [Ctx.at, if_pos hlt]; exact hm
    cases hx with
    | view0 _ _ _ n ha =>
      rw [List.take_zero]; exact .list0 _ _ _ fun _ => rfl
    | view _ _ _ n b _ cap ha hlc hcs =>
      rw [hat] at ha
      cases ha
      cases hok with
      | buf _ _ _ _ xs t _ c k1 k2 k3 k4 =>
        have hb : b < w.heap.size := (Array.getElem?_eq_some_iff.1 k1).1
        rcases Nat.eq_zero_or_pos len with h0 | h0
        · subst h0; rw [List.take_zero]; exact .list0 _ _ _ fun e => by cases e
        · have ht : (es.take len).length = len := by rw [List.length_take]; omega
          have up : ∀ {j : Nat} {e : PV}, (es.take len)[j]? = some e → es[j]? = some e := fun {j e} he => by
            rw [List.getElem?_take] at he
            split at he
            · exact he
            · cases he
          have hcell : ∀ (i : Nat) (y : Value), xs[i]? = some y → w.cell? ⟨b, 0 + i, none⟩ = some y := fun i y hy => by
            unfold World.cell?
            rw [k1]
            simp [hy]
          have hv := VP.list (M := fun _ => False) (w := w) b 0 cap sz (es.take len) c (fun h => h) hb (by rw [ht]; exact hlc)
            (fun j e he => (k4 j e (up he)).1)
            (fun j e he i y hy => ⟨((k4 j e (up he)).2.1 i y hy).1, hcell _ _ ((k4 j e (up he)).2.1 i y hy).2⟩)
            (fun j e he => (k4 j e (up he)).2.2.mono ⟨Nat.le_refl _, fun _ _ _ => ⟨fun h => h, rfl⟩⟩)
          rw [ht] at hv
          exact hv
    | viewOld _ _ _ _ _ b g' n ha hg h0 =>
      rw [hat] at ha
      cases ha
      cases hok <;> exact absurd hg (Nat.lt_irrefl _)
    | viewGone _ _ _ _ _ ha h0 =>
      rw [hat] at ha
      cases ha
      cases hok
  | refL k cs ps hf hl hc ih =>
    intro μ w hi x hx
    have h2 : (flat ba lo)[ba.length + k]? = some (.cells (AV.closes ba.length cs)) := by
      rw [flat, List.getElem?_append_right (by omega), Nat.add_sub_cancel_left, List.getElem?_map, hf]; rfl
    rw [AV.close, Rf.close] at hx
    obtain ⟨m, hm, hok⟩ := hi.bases _ _ h2
    have hlt := get_lt h2
    have hat : Ctx.at ⟨blocks μ, (flat ba lo).length, μ⟩ (.b (ba.length + k)) = some m := by rw [Ctx.at, if_pos hlt]; exact hm
    cases hx with
    | ref _ _ b ha =>
      rw [hat] at ha
      cases ha
      cases hok with
      | cells _ xs t _ k1 k2 k3 =>
        have hb : b < w.heap.size := (Array.getElem?_eq_some_iff.1 k1).1
        have hlen : xs.size = ps.length := by rw [k2, closes_length, hl]
        have hμ : μ.take (flat ba lo).length = μ := by
          have := hi.len
          simp at this
          exact List.take_of_length_le (by omega)
        refine .ptr b 0 ps (fun j => xs[j]?.getD default) (fun h => h) hb (fun j e he => ?_) (fun j e he => ?_)
        · have hj : j < xs.size := by rw [hlen]; exact get_lt he
          have hj2 : j < cs.length := by rw [hl]; exact get_lt he
          have hx : xs[j]? = some xs[j] := Array.getElem?_eq_getElem hj
          rw [hx]
          refine ⟨(k3 j _ ((cs[j]).close ba.length) hx (by rw [closes_get, List.getElem?_eq_getElem hj2]; rfl)).2, ?_⟩
          unfold World.cell?
          rw [k1]
          simp [hx]
        · have hj : j < xs.size := by rw [hlen]; exact get_lt he
          have hj2 : j < cs.length := by rw [hl]; exact get_lt he
          have hx : xs[j]? = some xs[j] := Array.getElem?_eq_getElem hj
          rw [hx]
          have hva := (k3 j _ ((cs[j]).close ba.length) hx (by rw [closes_get, List.getElem?_eq_getElem hj2]; rfl)).1
          rw [hμ] at hva
          exact ih j _ e (List.getElem?_eq_getElem hj2) he μ w hi _ hva
  | refB id ps hf =>
    intro μ w hi x hx
    have h2 : (flat ba lo)[id]? = some (.cells (ps.map .p)) := by
      rw [flat, List.getElem?_append_left (get_lt hf)]; exact hf
    rw [AV.close, Rf.close] at hx
    obtain ⟨m, hm, hok⟩ := hi.bases _ _ h2
    have hlt := get_lt h2
    have hat : Ctx.at ⟨blocks μ, (flat ba lo).length, μ⟩ (.b id) = some m := by rw [Ctx.at, if_pos hlt]; exact hm
    cases hx with
    | ref _ _ b ha =>
      rw [hat] at ha
      cases ha
      cases hok with
      | cells _ xs t _ k1 k2 k3 =>
        have hb : b < w.heap.size := (Array.getElem?_eq_some_iff.1 k1).1
        have hlen : xs.size = ps.length := by rw [k2, List.length_map]
        refine .ptr b 0 ps (fun j => xs[j]?.getD default) (fun h => h) hb (fun j e he => ?_) (fun j e he => ?_)
        · have hj : j < xs.size := by rw [hlen]; exact get_lt he
          have hx : xs[j]? = some xs[j] := Array.getElem?_eq_getElem hj
          rw [hx]
          refine ⟨(k3 j _ (.p e) hx (by rw [List.getElem?_map, he]; rfl)).2, ?_⟩
          unfold World.cell?
          rw [k1]
          simp [hx]
        · have hj : j < xs.size := by rw [hlen]; exact get_lt he
          have hx : xs[j]? = some xs[j] := Array.getElem?_eq_getElem hj
          rw [hx]
          exact (k3 j _ (.p e) hx (by rw [List.getElem?_map, he]; rfl)).1.pv.mono ⟨Nat.le_refl _, fun _ _ _ => ⟨fun h => h, rfl⟩⟩
  | agg cs ps hl hc ih =>
    intro μ w hi x hx
    rw [AV.close] at hx
    cases hx with
    | agg xs _ k1 k2 k3 =>
      rw [closes_length] at k1
      refine .agg xs ps (by rw [k1, hl]) (fun j y p hy hp => ?_) k3
      have hj2 : j < cs.length := by rw [hl]; exact get_lt hp
      exact ih j _ p (List.getElem?_eq_getElem hj2) hp μ w hi y (k2 j y _ hy (by rw [closes_get, List.getElem?_eq_getElem hj2]; rfl))

theorem inv_nil (W : World) : Inv [] W [] [] := ⟨rfl, fun i j m m' b h => by simp at h, fun i o h => by simp at h, fun k o h => by simp at h⟩

theorem Inv.kept {μ : List MI} {w w' : World} {H : List Ob} (h : Inv μ w H []) (hs : w.heap.size ≤ w'.heap.size) (hb : ∀ b, b < w.heap.size → w'.heap[b]? = w.heap[b]?) : Inv μ w' H [] := by
  have st : ∀ M : Nat → Prop, Stays M w M w' := fun M => ⟨hs, fun b h1 h2 => ⟨h2, hb b h1⟩⟩
  refine ⟨h.len, h.apart, fun i o ho => ?_, fun k o ho => by simp at ho⟩
  obtain ⟨m, hm, hok⟩ := h.bases i o ho
  refine ⟨m, hm, ?_⟩
  cases hok with
  | cells b xs t cs k1 k2 k3 => exact .cells b xs t cs ((hb b (Array.getElem?_eq_some_iff.1 k1).1).trans k1) k2 fun j x c hx hc => ⟨(k3 j x c hx hc).1.mono (st _) (.refl _), (k3 j x c hx hc).2⟩
  | buf0 g sz n => exact .buf0 g sz n
  | buf b g n sz xs t es c k1 k2 k3 k4 => exact .buf b g n sz xs t es c ((hb b (Array.getElem?_eq_some_iff.1 k1).1).trans k1) k2 k3 fun j e he => ⟨(k4 j e he).1, (k4 j e he).2.1, (k4 j e he).2.2.mono (st _)⟩
  | map b clock xs es k1 k2 k3 => exact .map b clock xs es ((hb b (Array.getElem?_eq_some_iff.1 k1).1).trans k1) k2 fun j x e hx he => ⟨(k3 j x e hx he).1.mono (st _), (k3 j x e hx he).2.mono (st _)⟩
  | loop l r ks cs st' p k1 k2 k0 k3 => exact .loop l r ks cs st' p ((hb l (Array.getElem?_eq_some_iff.1 k1).1).trans k1) k2 k0 fun j t c hj hc => (k3 j t c hj hc).mono (st _) (.refl _)
  | gone => exact .gone

/-- The rows of arguments. -/
inductive Lends (ba lo : List Ob) : List AV → List PV → Prop
  | nil : Lends ba lo [] []
  | cons (a : AV) (p : PV) (as : List AV) (ps : List PV) : Lend ba lo a p → Lends ba lo as ps → Lends ba lo (a :: as) (p :: ps)
theorem Lends.out {ba lo : List Ob} {as : List AV} {ps : List PV} (h : Lends ba lo as ps) : as.length = ps.length ∧ ∀ (j : Nat) (p : PV), ps[j]? = some p → ∃ a, as[j]? = some a ∧ Lend ba lo a p := by
  induction h with
  | nil => exact ⟨rfl, fun j p h => by simp at h⟩
  | cons a p as ps h _ ih =>
    refine ⟨by simp [ih.1], fun j q hq => ?_⟩
    cases j with
    | zero => simp at hq; subst hq; exact ⟨a, rfl, h⟩
    | succ j => exact ih.2 j q (by simpa using hq)

theorem callA_lend {f : Nat} {ba lo : List Ob} {as : List AV} {ps : List PV} {r : PV} (h : pureF P f (ps.map .p) (.p r)) (hr : Flat r) (hl : Lends ba lo as ps) :
    callA P f (AV.closes ba.length as) (flat ba lo) (fun r' H' => r' = .p r ∧ H' = flat ba lo) := by
  obtain ⟨h1, h2⟩ := hl.out
  intro μ w xs hi hx
  have hc := h [] [] w xs (inv_nil w) ⟨by rw [hx.1, closes_length, h1, List.length_map], fun j x a hj ha => by
    rw [List.getElem?_map] at ha
    obtain ⟨p, hp, rfl⟩ := Option.map_eq_some_iff.1 ha
    obtain ⟨a, ha, hla⟩ := h2 j p hp
    refine .p _ _ ((hla.close μ w hi x (hx.2 j x _ hj (by rw [closes_get, ha]; rfl))).mono ⟨Nat.le_refl _, fun b _ _ => ⟨fun ⟨i, m, h, _⟩ => by simp at h, rfl⟩⟩)⟩
  refine Calls.mono' hc ?_
  rintro e w' ⟨v, r', H', μ', rfl, ⟨rfl, rfl⟩, g3, g4, g5⟩
  have hkeep : ∀ b, b < w.heap.size → w'.heap[b]? = w.heap[b]? := fun b hb => (g5.stays.2 b hb fun ⟨i, m, h, _⟩ => by simp at h).2
  exact ⟨v, _, _, μ, rfl, ⟨rfl, rfl⟩, hi.kept g5.stays.1 hkeep, .p _ _ (g4.pv.anywhere hr), g5.os, g5.tape, g5.output, .refl μ, g5.stays.1, fun b hb hm => ⟨hm, hkeep b hb⟩⟩

theorem CallVC.lend {f : Nat} {args : List AV} {ps : List PV} {ba lo : List Ob} {K : AV → List Ob → List Ob → Prop} {r : PV} (h : AD.pureF P f (ps.map .p) (.p r)) (hr : Flat r) (hl : Lends ba lo args ps) (k : K (.p r) ba lo) : CallVC P f args ba lo K :=
  .pure (callA_lend h hr hl) k
end
end Go.Proofs.Ytemfnlidinnniaa.AD

namespace Go.Proofs.Ytemfnlidinnniaa.AD
set_option linter.unusedVariables false
section
variable {P : Program}

/-! ### a callee read in place -/

def resI (fr : FR) (ba lo : List Ob) (rs : List IRes) (K : AV → List Ob → List Ob → Prop) : Prop :=
  ressK fr ba lo rs fun as => match as with
    | [a] => K a ba lo
    | as => mkTupK as fun a => K a ba lo
def endI (f : IF) (K : AV → List Ob → List Ob → Prop) : Exit → FR → List Ob → List Ob → Prop
  | .ret, fr, ba, lo => resI fr ba lo f.res K
  | .normal, fr, ba, lo => resI fr ba lo f.res K
  | _, _, _, _ => False

theorem resI_out {N B : Nat} {T : List Deferred} {fn : Func} {irs : List IRes} (hc : compR P fn.results.toList = some irs) {μ : List MI} {w : World} {a : Act} {fr : FR} {ba lo : List Ob} {K : AV → List Ob → List Ob → Prop} (h : resI fr ba lo irs K) (hr : Rel N B T μ w a fr ba lo) :
    ∃ v r, (results fn a.tmps).run P w = .ok v w ∧ K r ba lo ∧ VA ⟨blocks μ, ba.length, μ⟩ w v r := by
  obtain ⟨as, vs, h1, h2, h3, h4⟩ := ressK_out _ _ hc h hr
  have hrun : (results fn a.tmps).run P w = .ok (if h : vs.toArray.size = 1 then vs.toArray[0] else .tuple vs.toArray) w := by
    rw [results_eq]
    have : fn.results.mapM (resRun a.tmps) = (do let l ← fn.results.toList.mapM (resRun a.tmps); pure l.toArray) := by
      rw [Array.mapM_eq_mapM_toList]
      rfl
    rw [this]
    simp only [Sem.run_bind, h2, Result.andThen, Sem.run_pure]
  split at h1
  · rename_i r
    obtain ⟨v, rfl⟩ := List.length_eq_one_iff.1 h3
    exact ⟨v, r, hrun, h1, h4 0 v r rfl rfl⟩
  · rename_i h8
    obtain ⟨r, h9, hk⟩ := mkTupK_out h1
    have hl : vs.toArray.size ≠ 1 := by
      intro e
      have e' : as.length = 1 := by rw [← h3]; simpa using e
      obtain ⟨x, rfl⟩ := List.length_eq_one_iff.1 e'
      exact h8 x rfl
    rw [dif_neg hl] at hrun
    exact ⟨_, r, hrun, hk, VA.of_tup ⟨by simpa using h3, fun j x c hx hcj => h4 j x c (by simpa using hx) hcj⟩ h9⟩

theorem CallVC.inline {own : List Nat} {f : Nat} {ir : IF} {args : List AV} {ba lo : List Ob} {K : AV → List Ob → List Ob → Prop} (hc : compF P own f = some ir.bare) (h : bif Nat.beq args.length ir.params then W P ir.body (frameOf 0 args) ba lo (endI ir K) else False) : CallVC P f args ba lo K := by
  refine ⟨fun μ w xs hi hx => ?_⟩
  unfold compF at hc
  split at hc
  · cases hc
  · rename_i fn hfn
    split at hc
    · cases hc
    · rename_i c hbody
      split at hc
      · rename_i ic rs hic hrs
        split at hc
        · rename_i hcond
          obtain ⟨hpar, _, hm⟩ := hcond
          have hc := Option.some.inj hc
          have e1 : ic = ir.body.bare := congrArg IF.body hc
          have e2 : rs = ir.res := congrArg IF.res hc
          have e3 : fn.params.size + fn.nfree = ir.params := congrArg IF.params hc
          subst e1
          subst e2
          cases hb : Nat.beq args.length ir.params with
          | false => rw [hb] at h; exact h.elim
          | true =>
            rw [hb] at h
            have hlen : args.length = ir.params := Nat.eq_of_beq_eq_true hb
            have h : W P ir.body (frameOf 0 args) ba lo (endI ir K) := h
            have hsz : xs.size = args.length := hx.1
            have hrel : Rel fn.ntmps w.heap.size [] μ w { tmps := xs ++ Array.replicate (fn.ntmps - xs.size) undef, defers := [] } (frameOf 0 args) ba lo := by
              refine ⟨hi, by simp; omega, Nat.le_refl _, .nil, fun t => ?_⟩
              rw [frameOf_get, if_pos (Nat.zero_le _), Nat.sub_zero]
              simp only [Array.getD_eq_getD_getElem?]
              rcases Nat.lt_or_ge t args.length with ht | ht
              · rw [Array.getElem?_append_left (by omega), Array.getElem?_eq_getElem (by omega), List.getElem?_eq_getElem ht]
                exact hx.2 t _ _ (Array.getElem?_eq_getElem (by omega)) (List.getElem?_eq_getElem ht)
              · rw [List.getElem?_eq_none (by omega)]
                exact .p _ _ (.undef _)
            refine callsIn_wide.1 (callsIn_of_wp_marks (F := FW none) (n := 0) hfn hbody trivial (wpIn_mono (W_sound hm 0 ir.body c hic h hrel) fun e a' w' hp => ?_))
            obtain ⟨μ', fr', ba', lo', g1, g2, g3, g4⟩ := hp
            have fin : resI fr' ba' lo' ir.res K → LeavesInM (FW none) 0 P fn a'.tmps (fun e w' => ∃ v' r μ'' ba'' lo'', e = .returned v' ∧ VA ⟨blocks μ'', ba.length, μ''⟩ w' v' r ∧ Inv μ'' w' ba'' lo'' ∧ Le μ w μ'' w' ∧ ba''.length = ba.length ∧ K r ba'' lo'') a'.defers .returning w' := fun g1 => by
              obtain ⟨Ds, d1, d2, d3⟩ := g2.defers
              rw [d1, List.append_nil]
              refine leaves_marks Ds d2 (fun D hD => (d3 D hD).2.2) ?_
              obtain ⟨q1, q2⟩ := Rel.shut (a := a') Ds d2 d3 ⟨g2.inv, g2.size, g2.base, .nil, g2.vals⟩ g3
              obtain ⟨v, r, k1, k2, k3⟩ := resI_out hrs g1 q1
              exact ⟨v, k1, v, r, μ', ba', lo', rfl, by rw [← g4]; exact k3, q1.inv, q2, g4, k2⟩
            cases e with
            | normal => exact fin g1
            | ret => exact fin g1
            | exit id => exact g1.elim
            | goto l => exact g1.elim
            | panic ch => exact g1.elim
            | outgrown => exact g1.elim
        · cases hc
      · cases hc

/-! ### a call seen from nowhere: no objects but its own -/

theorem pureF_nil {f : Nat} {ps : List PV} {r : PV} (h : callA P f (ps.map .p) [] fun r' H' => r' = .p r ∧ H' = []) (hr : Flat r) : pureF P f (ps.map .p) (.p r) := by
  intro H μ w xs hi hx
  have hc := h [] w xs (inv_nil w) ⟨hx.1, fun j x a hj ha => by
    have := hx.2 j x a hj ha
    rw [List.getElem?_map] at ha
    obtain ⟨p, hp, rfl⟩ := Option.map_eq_some_iff.1 ha
    exact .p _ _ (this.pv.mono ⟨Nat.le_refl _, fun b _ _ => ⟨fun ⟨i, m, h, _⟩ => by simp at h, rfl⟩⟩)⟩
  refine Calls.mono' hc ?_
  rintro e w' ⟨v, r', H', μ', rfl, ⟨rfl, rfl⟩, g3, g4, g5⟩
  have hkeep : ∀ b, b < w.heap.size → w'.heap[b]? = w.heap[b]? := fun b hb => (g5.stays.2 b hb fun ⟨i, m, h, _⟩ => by simp at h).2
  exact ⟨v, _, _, μ, rfl, ⟨rfl, rfl⟩, hi.kept g5.stays.1 hkeep, .p _ _ (g4.pv.anywhere hr), g5.os, g5.tape, g5.output, .refl μ, g5.stays.1, fun b hb hm => ⟨hm, hkeep b hb⟩⟩

theorem pureF_nil_of {own : List Nat} {f : Nat} {ir : IF} {ps : List PV} {r : PV} (hc : compF P own f = some ir.bare) (hr : Flat r) (h : fnV P ir (ps.map .p) [] fun r' H' => r' = .p r ∧ H' = []) : pureF P f (ps.map .p) (.p r) :=
  pureF_nil (sound hc h) hr

/-! ### a list that is nil yet is an object without cells -/

theorem CallVC.ghost {f : Nat} {args : List AV} {ba lo : List Ob} {K : AV → List Ob → List Ob → Prop} (m j sz : Nat) {cs : List AV} (h1 : lo[m]? = some (.cells cs)) (h2 : cs[j]? = some (.p .nils))
    (h : CallVC P f args ba (lo.set m (.cells (cs.set j (.view (.l lo.length) 0 sz 0))) ++ [.buf 0 sz []]) K) : CallVC P f args ba lo K := by
  refine ⟨fun μ w xs hi hx => ?_⟩
  have hblk : ∀ b, blocks (μ ++ [.buf none 0 0]) b → blocks μ b := by
    rintro b ⟨i, m', hm, hb⟩
    rcases Nat.lt_or_ge i μ.length with hl | hl
    · rw [List.getElem?_append_left hl] at hm; exact ⟨i, m', hm, hb⟩
    · rw [List.getElem?_append_right hl] at hm
      have : i - μ.length = 0 := by have := get_lt hm; simp at this; omega
      rw [this] at hm
      cases hm
      cases hb
  have hst : Stays (blocks μ) w (blocks (μ ++ [.buf none 0 0])) w := ⟨Nat.le_refl _, fun b _ hb => ⟨fun hc => hb (hblk b hc), rfl⟩⟩
  have hab : Above μ (μ ++ [.buf none 0 0]) := fun i m' hm => ⟨m', by rw [List.getElem?_append_left (get_lt hm)]; exact hm, .refl _⟩
  have hle : ba.length ≤ μ.length := by rw [hi.len]; omega
  have htk : (μ ++ [MI.buf none 0 0]).take ba.length = μ.take ba.length := List.take_append_of_le_length hle
  have obm : ∀ {m : MI} {o : Ob} {μ1 μ2 : List MI}, Above μ1 μ2 → ObOk ⟨blocks μ, ba.length, μ1⟩ w m o → ObOk ⟨blocks (μ ++ [.buf none 0 0]), ba.length, μ2⟩ w m o := fun ha ho => ho.mono hst ha fun b _ => rfl
  have hml := get_lt h1
  have hi2 : Inv (μ ++ [.buf none 0 0]) w ba (lo.set m (.cells (cs.set j (.view (.l lo.length) 0 sz 0))) ++ [.buf 0 sz []]) := by
    refine ⟨by simp [hi.len]; omega, fun a c m1 m2 b g1 g2 g3 g4 => ?_, fun i o ho => ?_, fun k o ho => ?_⟩
    · have lt : ∀ {a : Nat} {m1 : MI}, (μ ++ [.buf none 0 0])[a]? = some m1 → m1.block? = some b → μ[a]? = some m1 := fun {a m1} g1 g3 => by
        rcases Nat.lt_or_ge a μ.length with hl | hl
        · rwa [List.getElem?_append_left hl] at g1
        · rw [List.getElem?_append_right hl] at g1
          have : a - μ.length = 0 := by have := get_lt g1; simp at this; omega
          rw [this] at g1
          cases g1
          cases g3
      exact hi.apart a c m1 m2 b (lt g1 g3) (lt g2 g4) g3 g4
    · obtain ⟨m1, g1, g2⟩ := hi.bases i o ho
      refine ⟨m1, by rw [List.getElem?_append_left (get_lt g1)]; exact g1, ?_⟩
      rw [htk]
      exact obm (.refl _) g2
    · rcases Nat.lt_or_ge k lo.length with hk | hk
      · rw [List.getElem?_append_left (by simpa using hk), List.getElem?_set] at ho
        by_cases hkm : m = k
        · subst hkm
          rw [if_pos rfl, if_pos hml] at ho
          cases ho
          obtain ⟨m1, g1, g2⟩ := hi.locs m _ h1
          refine ⟨m1, by rw [List.getElem?_append_left (get_lt g1)]; exact g1, ?_⟩
          cases obm hab g2 with
          | cells b ys t _ k1 k2 k3 =>
            refine .cells b ys t _ k1 (by simpa using k2) fun i x c hx hc => ?_
            rw [List.getElem?_set] at hc
            by_cases hij : j = i
            · subst hij
              rw [if_pos rfl, if_pos (get_lt h2)] at hc
              cases hc
              have hv := k3 j x _ hx h2
              refine ⟨?_, hv.2⟩
              have hx0 : x = .slice none 0 0 := by
                have := hv.1.pv
                cases this; rfl
              rw [hx0]
              exact .view0 _ _ _ 0 (by simp only [Ctx.at]; rw [← hi.len, List.getElem?_append_right (Nat.le_refl _), Nat.sub_self]; rfl)
            · rw [if_neg hij] at hc
              exact k3 i x c hx hc
        · rw [if_neg hkm] at ho
          obtain ⟨m1, g1, g2⟩ := hi.locs k o ho
          exact ⟨m1, by rw [List.getElem?_append_left (get_lt g1)]; exact g1, obm hab g2⟩
      · rw [List.getElem?_append_right (by simpa using hk)] at ho
        have hk2 : k = lo.length := by have := get_lt ho; simp at this; omega
        subst hk2
        simp at ho
        subst ho
        exact ⟨.buf none 0 0, by rw [← hi.len, List.getElem?_append_right (Nat.le_refl _), Nat.sub_self]; rfl, .buf0 _ _ _⟩
  refine (h.out (μ ++ [.buf none 0 0]) w xs hi2 ⟨hx.1, fun j x a hj ha => (hx.2 j x a hj ha).mono hst hab⟩).mono fun e w' hw => ?_
  obtain ⟨v, r, μ', ba', lo', g1, g2, g3, g4, g5, g6⟩ := hw
  exact ⟨v, r, μ', ba', lo', g1, g2, g3, ⟨g4.os, g4.tape, g4.output, hab.trans g4.above, hst.trans g4.stays⟩, g5, g6⟩

end
end Go.Proofs.Ytemfnlidinnniaa.AD

namespace Go.Proofs.Ytemfnlidinnniaa.AD
set_option linter.unusedVariables false
section
variable {P : Program}

mutual
def AV.ren (g : Rf → Rf) : AV → AV
  | .p v => .p v
  | .ref r o => .ref (g r) o
  | .view r a sz len => .view (g r) a sz len
  | .elt r a sz i o => .elt (g r) a sz i o
  | .mapr r => .mapr (g r)
  | .clos f as bs => .clos f (AV.rens g as) (AV.rens g bs)
  | .agg cs => .agg (AV.rens g cs)
  | .tup cs => .tup (AV.rens g cs)
def AV.rens (g : Rf → Rf) : List AV → List AV
  | [] => []
  | a :: r => AV.ren g a :: AV.rens g r
end
theorem rens_map (g : Rf → Rf) : ∀ l, AV.rens g l = l.map (AV.ren g)
  | [] => by rw [AV.rens]; rfl
  | a :: r => by rw [AV.rens, rens_map g r]; rfl
theorem rens_get (g : Rf → Rf) (l : List AV) (j : Nat) : (AV.rens g l)[j]? = (l[j]?).map (AV.ren g) := by rw [rens_map, List.getElem?_map]
theorem rens_length (g : Rf → Rf) (l : List AV) : (AV.rens g l).length = l.length := by rw [rens_map, List.length_map]
def Ob.ren (g : Rf → Rf) : Ob → Ob
  | .cells cs => .cells (AV.rens g cs)
  | .loop l r ks cs st => .loop l r ks (AV.rens g cs) st
  | o => o

theorem VP.less {M M' : Nat → Prop} {w : World} (hM : ∀ b, ¬ M b → ¬ M' b) {v : Value} {e : PV} (h : VP M w v e) : VP M' w v e := h.mono ⟨Nat.le_refl _, fun b _ hb => ⟨hM b hb, rfl⟩⟩

theorem VA.ren {Γ Γ' : Ctx} {w : World} {g : Rf → Rf} (hM : ∀ b, ¬ Γ.M b → ¬ Γ'.M b) (hat : ∀ r m, Γ.at r = some m → Γ'.at (g r) = some m) {v : Value} {a : AV} (h : VA Γ w v a) : VA Γ' w v (a.ren g) := by
  induction h with
  | p v e h => rw [AV.ren]; exact .p v e (h.less hM)
  | ref r off b h => rw [AV.ren]; exact .ref _ off b (hat _ _ h)
  | view0 r g' sz n h => rw [AV.ren]; exact .view0 _ g' sz n (hat _ _ h)
  | view r g' sz n b len cap h hl hc => rw [AV.ren]; exact .view _ g' sz n b len cap (hat _ _ h) hl hc
  | viewOld v r g' sz len b g2 n h hg h0 => rw [AV.ren]; exact .viewOld v _ g' sz len b g2 n (hat _ _ h) hg h0
  | viewGone v r g' sz len h h0 => rw [AV.ren]; exact .viewGone v _ g' sz len (hat _ _ h) h0
  | elt r g' sz n b idx off h => rw [AV.ren]; exact .elt _ g' sz n b idx off (hat _ _ h)
  | eltOld v r g' sz idx off b g2 n h hg h0 => rw [AV.ren]; exact .eltOld v _ g' sz idx off b g2 n (hat _ _ h) hg h0
  | eltGone v r g' sz idx off h h0 => rw [AV.ren]; exact .eltGone v _ g' sz idx off (hat _ _ h) h0
  | mapr r b h => rw [AV.ren]; exact .mapr _ b (hat _ _ h)
  | maprGone v r h h0 => rw [AV.ren]; exact .maprGone v _ (hat _ _ h) h0
  | clos f xs ys as bs h1 h2 _ _ ih1 ih2 =>
    rw [AV.ren]
    exact .clos f xs ys _ _ (by rw [rens_length]; exact h1) (by rw [rens_length]; exact h2) (fun j x c hx hc => by
      rw [rens_get] at hc
      obtain ⟨c', hc', rfl⟩ := map_some hc
      exact ih1 j x c' hx hc') (fun j x c hx hc => by
      rw [rens_get] at hc
      obtain ⟨c', hc', rfl⟩ := map_some hc
      exact ih2 j x c' hx hc')
  | agg xs cs h1 _ h3 ih =>
    rw [AV.ren]
    exact .agg xs _ (by rw [rens_length]; exact h1) (fun j x c hx hc => by
      rw [rens_get] at hc
      obtain ⟨c', hc', rfl⟩ := map_some hc
      exact ih j x c' hx hc') h3
  | tup xs cs h1 _ ih =>
    rw [AV.ren]
    exact .tup xs _ (by rw [rens_length]; exact h1) (fun j x c hx hc => by
      rw [rens_get] at hc
      obtain ⟨c', hc', rfl⟩ := map_some hc
      exact ih j x c' hx hc')

theorem ObOk.ren {Γ Γ' : Ctx} {w : World} {g : Rf → Rf} (hM : ∀ b, ¬ Γ.M b → ¬ Γ'.M b) (hat : ∀ r m, Γ.at r = some m → Γ'.at (g r) = some m) {m : MI} {o : Ob} (h : ObOk Γ w m o) : ObOk Γ' w m (o.ren g) := by
  cases h with
  | cells b xs t cs a1 a2 a3 =>
    exact .cells b xs t _ a1 (by rw [rens_length]; exact a2) fun j x c hx hc => by
      rw [rens_get] at hc
      obtain ⟨c', hc', rfl⟩ := map_some hc
      exact ⟨(a3 j x c' hx hc').1.ren hM hat, (a3 j x c' hx hc').2⟩
  | loop l r ks cs st p a1 a2 a0 a3 =>
    exact .loop l r ks _ st p a1 a2 (by rw [rens_length]; exact a0) fun j t c hj hc => by
      rw [rens_get] at hc
      obtain ⟨c', hc', rfl⟩ := map_some hc
      exact (a3 j t c' hj hc').ren hM hat
  | buf0 g sz n => exact .buf0 g sz n
  | buf b g n sz xs t es c a1 a2 a3 a4 => exact .buf b g n sz xs t es c a1 a2 a3 fun j e he => ⟨(a4 j e he).1, (a4 j e he).2.1, (a4 j e he).2.2.less hM⟩
  | map b clock xs es a1 a2 a3 => exact .map b clock xs es a1 a2 fun j x e hx he => ⟨(a3 j x e hx he).1.less hM, (a3 j x e hx he).2.less hM⟩
  | gone => exact .gone

/-! ### an order -/

def posN (k : Nat) : List Nat → Nat
  | [] => 0
  | a :: r => bif Nat.beq a k then 0 else posN k r + 1
def atN (j : Nat) : List Nat → Nat
  | [] => 0
  | a :: r => match j with
    | 0 => a
    | j + 1 => atN j r
def posOf (π : List Nat) : Rf → Rf
  | .l k => .b (posN k π)
  | r => r
def backOf (π : List Nat) : Rf → Rf
  | .b j => .l (atN j π)
  | r => r

theorem posN_get {k : Nat} : ∀ {π : List Nat}, k ∈ π → π[posN k π]? = some k
  | [], h => by cases h
  | a :: r, h => by
    simp only [posN]
    cases hb : Nat.beq a k with
    | true => simp only [cond_true]; rw [Nat.eq_of_beq_eq_true hb]; rfl
    | false =>
      simp only [cond_false]
      have : k ∈ r := by
        cases h with
        | head => simp at hb
        | tail _ h => exact h
      simpa using posN_get this
theorem posN_at : ∀ {π : List Nat}, π.Nodup → ∀ {j i : Nat}, π[j]? = some i → posN i π = j
  | [], _, j, i, h => by simp at h
  | a :: r, hn, j, i, h => by
    rw [List.nodup_cons] at hn
    simp only [posN]
    cases j with
    | zero => simp at h; subst h; simp
    | succ j =>
      have h : r[j]? = some i := by simpa using h
      have hne : ¬ a = i := fun e => hn.1 (by rw [e]; exact List.mem_of_getElem? h)
      rw [beq_ne hne]
      simp only [cond_false]
      rw [posN_at hn.2 h]
theorem atN_get : ∀ {π : List Nat} {j i : Nat}, π[j]? = some i → atN j π = i
  | [], j, i, h => by simp at h
  | a :: r, j, i, h => by
    cases j with
    | zero => simp at h; subst h; rfl
    | succ j => exact atN_get (π := r) (by simpa using h)

theorem CallVC.meth {f : Nat} {args args' : List AV} {lo H0 H1 lo' : List Ob} {K : AV → List Ob → List Ob → Prop} {r1 : AV} (π : List Nat) (h : callA P f args' H0 fun r H' => r = r1 ∧ H' = H1)
    (ea : AV.rens (posOf π) args = args') (eh : (π.map fun i => (lo.getD i .gone).ren (posOf π)) = H0) (el : ((List.range lo.length).map fun i => (H1.getD (posN i π) .gone).ren (backOf π)) = lo') (hl : H1.length = lo.length)
    (p1 : π.Nodup) (p2 : ∀ k, k < lo.length → k ∈ π) (p3 : π.length = lo.length) (k : K (r1.ren (backOf π)) [] lo') : CallVC P f args [] lo K := by
  subst ea; subst eh; subst el
  refine ⟨fun μ w xs hi hx => ?_⟩
  have hn : μ.length = lo.length := by rw [hi.len]; simp
  have p4 : ∀ i, i ∈ π → i < lo.length := by
    intro i him
    rcases Nat.lt_or_ge i lo.length with h | h
    · exact h
    · -- one more than fits
      have hsub : (i :: List.range lo.length).Nodup := by
        rw [List.nodup_cons]
        exact ⟨by simp; exact h, List.nodup_range⟩
      have hle : (i :: List.range lo.length).length ≤ π.length := hsub.length_le_of_subset fun x hx => by
        cases hx with
        | head => exact him
        | tail _ hx => exact p2 x (List.mem_range.1 hx)
      simp at hle
      omega
  -- the places in the new order
  have get : ∀ (j : Nat) (m : MI), (π.map fun i => μ.getD i .gone)[j]? = some m ↔ ∃ i, π[j]? = some i ∧ μ[i]? = some m := fun j m => by
    rw [List.getElem?_map]
    constructor
    · intro h
      obtain ⟨i, h1, h2⟩ := map_some h
      refine ⟨i, h1, ?_⟩
      have hlt : i < μ.length := by rw [hn]; exact p4 i (List.mem_of_getElem? h1)
      rw [List.getElem?_eq_getElem hlt] at *
      simp [List.getD, hlt] at h2
      rw [h2]
    · rintro ⟨i, h1, h2⟩
      rw [h1]
      simp [List.getD, h2]
  have back : ∀ (i : Nat) (m : MI), μ[i]? = some m → (π.map fun i => μ.getD i .gone)[posN i π]? = some m := fun i m h => by
    rw [get]
    exact ⟨i, posN_get (p2 i (by rw [← hn]; exact get_lt h)), h⟩
  generalize hμ : (π.map fun i => μ.getD i .gone) = ν at get back
  have hνl : ν.length = lo.length := by rw [← hμ, List.length_map, p3]
  have hbk : ∀ b, blocks ν b ↔ blocks μ b := fun b => by
    constructor
    · rintro ⟨j, m, h1, h2⟩
      obtain ⟨i, _, h3⟩ := (get j m).1 h1
      exact ⟨i, m, h3, h2⟩
    · rintro ⟨i, m, h1, h2⟩
      exact ⟨_, m, back i m h1, h2⟩
  have hlen0 : (π.map fun i => (lo.getD i .gone).ren (posOf π)).length = lo.length := by rw [List.length_map, p3]
  have hat : ∀ r m, Ctx.at ⟨blocks μ, ([] : List Ob).length, μ⟩ r = some m → Ctx.at ⟨blocks ν, lo.length, ν⟩ (posOf π r) = some m := fun r m h => by
    cases r with
    | l k =>
      simp only [Ctx.at, List.length_nil, Nat.zero_add] at h
      simp only [posOf, Ctx.at]
      have hb := back k m h
      rw [if_pos (by rw [← hνl]; exact get_lt hb)]
      exact hb
    | b id => simp only [Ctx.at, List.length_nil] at h; rw [if_neg (Nat.not_lt_zero _)] at h; cases h
  have hM : ∀ b, ¬ blocks μ b → ¬ blocks ν b := fun b h h2 => h ((hbk b).1 h2)
  have hi2 : Inv ν w (π.map fun i => (lo.getD i .gone).ren (posOf π)) [] := by
    refine ⟨by rw [hνl, hlen0]; rfl, fun a c m m' b g1 g2 g3 g4 => ?_, fun j o ho => ?_, fun k o ho => by simp at ho⟩
    · obtain ⟨i1, a1, a2⟩ := (get a m).1 g1
      obtain ⟨i2, b1, b2⟩ := (get c m').1 g2
      have := hi.apart i1 i2 m m' b a2 b2 g3 g4
      subst this
      rw [← posN_at p1 a1, ← posN_at p1 b1]
    · rw [List.getElem?_map] at ho
      obtain ⟨i, h1, rfl⟩ := map_some ho
      have hlt := p4 i (List.mem_of_getElem? h1)
      obtain ⟨m, g1, g2⟩ := hi.locs i lo[i] (List.getElem?_eq_getElem hlt)
      simp only [List.length_nil, Nat.zero_add] at g1
      refine ⟨m, (get j m).2 ⟨i, h1, g1⟩, ?_⟩
      have e : lo.getD i .gone = lo[i] := by simp [List.getD, hlt]
      rw [e, hlen0, List.take_of_length_le (by omega)]
      exact g2.ren hM hat
  refine (h ν w xs hi2 ⟨by rw [rens_length]; exact hx.1, fun j x a hj ha => ?_⟩).mono fun e w' hw => ?_
  · rw [rens_get] at ha
    obtain ⟨a', ha', rfl⟩ := map_some ha
    rw [hlen0]
    exact (hx.2 j x a' hj ha').ren hM hat
  · obtain ⟨v, r, H', ν', he, ⟨rfl, rfl⟩, g3, g4, g5⟩ := hw
    have hν'l : ν'.length = lo.length := by have := g3.len; simp at this; omega
    have rng : ∀ {i : Nat}, (List.range lo.length)[i]? = if i < lo.length then some i else none := fun {i} => by
      by_cases hl : i < lo.length
      · rw [if_pos hl, List.getElem?_range hl]
      · rw [if_neg hl, List.getElem?_eq_none (by simp; omega)]
    have get2 : ∀ (i : Nat) (m : MI), ((List.range lo.length).map fun i => ν'.getD (posN i π) .gone)[i]? = some m ↔ i < lo.length ∧ ν'[posN i π]? = some m := fun i m => by
      rw [List.getElem?_map, rng]
      by_cases hl : i < lo.length
      · have hp : posN i π < ν'.length := by rw [hν'l, ← p3]; exact get_lt (posN_get (p2 i hl))
        simp [hl, List.getD, hp]
      · simp [hl]
    generalize hμ3 : ((List.range lo.length).map fun i => ν'.getD (posN i π) .gone) = μ3 at get2
    have hμ3l : μ3.length = lo.length := by rw [← hμ3]; simp
    have fwd : ∀ (j : Nat) (m : MI), ν'[j]? = some m → ∃ i, π[j]? = some i ∧ μ3[i]? = some m := fun j m h => by
      have hj : j < π.length := by rw [p3, ← hν'l]; exact get_lt h
      have h1 : π[j]? = some π[j] := List.getElem?_eq_getElem hj
      refine ⟨_, h1, (get2 _ m).2 ⟨p4 _ (List.getElem_mem _), ?_⟩⟩
      rw [posN_at p1 h1]
      exact h
    have hbk3 : ∀ b, blocks μ3 b ↔ blocks ν' b := fun b => by
      constructor
      · rintro ⟨i, m, h1, h2⟩
        exact ⟨_, m, ((get2 i m).1 h1).2, h2⟩
      · rintro ⟨j, m, h1, h2⟩
        obtain ⟨i, _, h3⟩ := fwd j m h1
        exact ⟨i, m, h3, h2⟩
    have hM3 : ∀ b, ¬ blocks ν' b → ¬ blocks μ3 b := fun b h h2 => h ((hbk3 b).1 h2)
    have hat3 : ∀ (X : List MI), (∀ (j : Nat) (m : MI), X[j]? = some m → ν'[j]? = some m) → ∀ r m, Ctx.at ⟨blocks ν', H'.length, X⟩ r = some m → Ctx.at ⟨blocks μ3, ([] : List Ob).length, μ3⟩ (backOf π r) = some m := fun X hX r m h => by
      cases r with
      | l k =>
        simp only [Ctx.at] at h
        have := get_lt (hX _ _ h)
        omega
      | b j =>
        simp only [Ctx.at] at h
        split at h
        · obtain ⟨i, h1, h2⟩ := fwd j m (hX _ _ h)
          simp only [backOf, Ctx.at, List.length_nil, Nat.zero_add]
          rw [atN_get h1]
          exact h2
        · cases h
    refine ⟨v, _, μ3, [], _, he, g4.ren hM3 (hat3 ν' fun _ _ h => h), ?_, ⟨g5.os, g5.tape, g5.output, fun i m hm => ?_, g5.stays.1, fun b hb hm => ?_⟩, rfl, k⟩
    · refine ⟨by rw [hμ3l]; simp, fun a c m m' b g1 g2 h3 h4 => ?_, fun i o ho => by simp at ho, fun i o ho => ?_⟩
      · obtain ⟨a1, a2⟩ := (get2 a m).1 g1
        obtain ⟨b1, b2⟩ := (get2 c m').1 g2
        have e1 := g3.apart _ _ m m' b a2 b2 h3 h4
        have e2 := posN_get (p2 a a1)
        have e3 := posN_get (p2 c b1)
        rw [e1, e3] at e2
        exact (Option.some.inj e2).symm
      · rw [List.getElem?_map, rng] at ho
        by_cases hl2 : i < lo.length
        · rw [if_pos hl2] at ho
          simp only [Option.map_some, Option.some.injEq] at ho
          subst ho
          have hp : posN i π < H'.length := by rw [hl, ← p3]; exact get_lt (posN_get (p2 i hl2))
          obtain ⟨m, k1, k2⟩ := g3.bases (posN i π) H'[posN i π] (List.getElem?_eq_getElem hp)
          refine ⟨m, by simp only [List.length_nil, Nat.zero_add]; exact (get2 i m).2 ⟨hl2, k1⟩, ?_⟩
          have e : H'.getD (posN i π) .gone = H'[posN i π] := by simp [List.getD, hp]
          rw [e]
          refine k2.ren hM3 (hat3 _ fun j m h => ?_)
          rw [List.getElem?_take] at h
          split at h
          · exact h
          · cases h
        · rw [if_neg hl2] at ho
          cases ho
    · obtain ⟨m', h1, h2⟩ := g5.above _ m (back i m hm)
      exact ⟨m', (get2 i m').2 ⟨by rw [← hn]; exact get_lt hm, h1⟩, h2⟩
    · have hm2 : ¬ blocks ν b := fun h => hm ((hbk b).1 h)
      obtain ⟨h1, h2⟩ := g5.stays.2 b hb hm2
      exact ⟨hM3 b h1, h2⟩

end
end Go.Proofs.Ytemfnlidinnniaa.AD

namespace Go.Proofs.Ytemfnlidinnniaa.AD
set_option linter.unusedVariables false
section
variable {P : Program}

/-- A function called on objects of the caller's own, which stand first; it answers a plain value and leaves them so. -/
def Meth (P : Program) (f : Nat) (args : List AV) (os : List Ob) (r : PV) (os' : List Ob) : Prop := ∀ rest, callA P f args (os ++ rest) fun r' H' => r' = .p r ∧ H' = os' ++ rest

theorem Meth.of {own : List Nat} {f : Nat} {ir : IF} {args : List AV} {os os' : List Ob} {r : PV} (hc : compF P own f = some ir.bare) (h : ∀ rest, fnV P ir args (os ++ rest) fun r' H' => r' = .p r ∧ H' = os' ++ rest) : Meth P f args os r os' :=
  fun rest => sound hc (h rest)

def AV.clB (n : Nat) : AV → Bool
  | .p _ => true
  | .ref (.b i) _ => Nat.blt i n
  | .view (.b i) _ _ _ => Nat.blt i n
  | .elt (.b i) _ _ _ _ => Nat.blt i n
  | .mapr (.b i) => Nat.blt i n
  | _ => false
def avsCl (n : Nat) : List AV → Bool
  | [] => true
  | a :: r => a.clB n && avsCl n r
def obsCl (n : Nat) : List Ob → Bool
  | [] => true
  | .cells cs :: r => avsCl n cs && obsCl n r
  | .loop _ _ _ cs _ :: r => avsCl n cs && obsCl n r
  | _ :: r => obsCl n r

theorem blt_lt {i n : Nat} (h : Nat.blt i n = true) : i < n := by
  have : Nat.ble (i + 1) n = true := h
  exact Nat.le_of_ble_eq_true this

theorem clB_low {n m : Nat} (hm : n ≤ m) {a : AV} (h : a.clB n = true) : AV.Low m a ∧ a.lowL 0 = true := by
  unfold AV.clB at h
  split at h
  · exact ⟨.p _, rfl⟩
  · exact ⟨.ref _ _ (Nat.lt_of_lt_of_le (blt_lt h) hm), rfl⟩
  · exact ⟨.view _ _ _ _ (Nat.lt_of_lt_of_le (blt_lt h) hm), rfl⟩
  · exact ⟨.elt _ _ _ _ _ (Nat.lt_of_lt_of_le (blt_lt h) hm), rfl⟩
  · exact ⟨.mapr _ (Nat.lt_of_lt_of_le (blt_lt h) hm), rfl⟩
  · cases h
theorem avsCl_low {n m : Nat} (hm : n ≤ m) : ∀ {l : List AV}, avsCl n l = true → ∀ a, a ∈ l → AV.Low m a ∧ a.lowL 0 = true
  | [], _, a, h => by cases h
  | b :: r, h, a, ha => by
    simp only [avsCl, Bool.and_eq_true] at h
    cases ha with
    | head => exact clB_low hm h.1
    | tail _ ha => exact avsCl_low hm h.2 a ha
theorem obsCl_low {n m : Nat} (hm : n ≤ m) : ∀ {l : List Ob}, obsCl n l = true → ∀ o, o ∈ l → o.LowB m
  | [], _, o, h => by cases h
  | o1 :: r, h, o, ho => by
    have hr : obsCl n r = true := by cases o1 <;> simp only [obsCl, Bool.and_eq_true] at h <;> first | exact h.2 | exact h
    cases ho with
    | head =>
      cases o1 <;> first | trivial | skip
      · simp only [obsCl, Bool.and_eq_true] at h
        exact avsCl_low hm h.1
      · simp only [obsCl, Bool.and_eq_true] at h
        exact avsCl_low hm h.1
    | tail _ ho => exact obsCl_low hm hr o ho

/-- From one such function to another, on the same objects. -/
theorem CallVC.same {f : Nat} {args : List AV} {os os' rest lo : List Ob} {K : AV → List Ob → List Ob → Prop} {r : PV} (h : Meth P f args os r os') (ha : AV.closes (os ++ rest).length args = args) (hl : os'.length = os.length) (hc : obsCl os.length os' = true) (k : K (.p r) (os' ++ rest) lo) : CallVC P f args (os ++ rest) lo K := by
  have hlen : (os' ++ rest).length = (os ++ rest).length := by simp [hl]
  refine CallX.to ⟨?_⟩
  rw [ha]
  have e1 : flat (os ++ rest) lo = os ++ (rest ++ lo.map (Ob.close (os ++ rest).length)) := by rw [flat, List.append_assoc]
  rw [e1]
  refine (h _).mono fun r' H' ⟨h1, h2⟩ => ⟨.p r, os' ++ rest, lo, by rw [h1, AV.close], .p _, by rw [h2, List.append_assoc], hlen, fun o ho => ?_, fun o ho => .inl ho, k⟩
  rw [List.mem_append] at ho
  rcases ho with ho | ho
  · exact .inr (obsCl_low (by simp) hc o ho)
  · exact .inl (List.mem_append.2 (.inr ho))

/-- Where the objects are local ones, in another order. -/
theorem CallVC.methM {f : Nat} {args args' : List AV} {lo os os' lo' : List Ob} {K : AV → List Ob → List Ob → Prop} {r : PV} (π : List Nat) (h : Meth P f args' os r os')
    (ea : AV.rens (posOf π) args = args') (eo : (π.map fun i => (lo.getD i .gone).ren (posOf π)).take os.length = os) (ol : os'.length = os.length)
    (el : ((List.range lo.length).map fun i => ((os' ++ (π.map fun i => (lo.getD i .gone).ren (posOf π)).drop os.length).getD (posN i π) .gone).ren (backOf π)) = lo')
    (p1 : π.Nodup) (p2 : ∀ k, k < lo.length → k ∈ π) (p3 : π.length = lo.length) (k : K (.p r) [] lo') : CallVC P f args [] lo K := by
  have hd : (π.map fun i => (lo.getD i .gone).ren (posOf π)) = os ++ (π.map fun i => (lo.getD i .gone).ren (posOf π)).drop os.length := by
    conv => lhs; rw [← List.take_append_drop os.length (π.map fun i => (lo.getD i .gone).ren (posOf π)), eo]
  have hlen : os.length + ((π.map fun i => (lo.getD i .gone).ren (posOf π)).drop os.length).length = lo.length := by
    have := congrArg List.length hd
    rw [List.length_map, List.length_append] at this
    omega
  refine CallVC.meth (H0 := os ++ (π.map fun i => (lo.getD i .gone).ren (posOf π)).drop os.length) π (h _) ea hd el (by rw [List.length_append, ol]; exact hlen) p1 p2 p3 (by rw [AV.ren]; exact k)

/-- The same, where what is answered names one of the objects. -/
def MethV (P : Program) (f : Nat) (args : List AV) (os : List Ob) (r : AV) (os' : List Ob) : Prop := ∀ rest, callA P f args (os ++ rest) fun r' H' => r' = r ∧ H' = os' ++ rest

theorem MethV.of {own : List Nat} {f : Nat} {ir : IF} {args : List AV} {os os' : List Ob} {r : AV} (hc : compF P own f = some ir.bare) (h : ∀ rest, fnV P ir args (os ++ rest) fun r' H' => r' = r ∧ H' = os' ++ rest) : MethV P f args os r os' :=
  fun rest => sound hc (h rest)

theorem CallVC.methV {f : Nat} {args args' : List AV} {lo os os' lo' : List Ob} {K : AV → List Ob → List Ob → Prop} {r : AV} (π : List Nat) (h : MethV P f args' os r os')
    (ea : AV.rens (posOf π) args = args') (eo : (π.map fun i => (lo.getD i .gone).ren (posOf π)).take os.length = os) (ol : os'.length = os.length)
    (el : ((List.range lo.length).map fun i => ((os' ++ (π.map fun i => (lo.getD i .gone).ren (posOf π)).drop os.length).getD (posN i π) .gone).ren (backOf π)) = lo')
    (p1 : π.Nodup) (p2 : ∀ k, k < lo.length → k ∈ π) (p3 : π.length = lo.length) (k : K (r.ren (backOf π)) [] lo') : CallVC P f args [] lo K := by
  have hd : (π.map fun i => (lo.getD i .gone).ren (posOf π)) = os ++ (π.map fun i => (lo.getD i .gone).ren (posOf π)).drop os.length := by
    conv => lhs; rw [← List.take_append_drop os.length (π.map fun i => (lo.getD i .gone).ren (posOf π)), eo]
  have hlen : os.length + ((π.map fun i => (lo.getD i .gone).ren (posOf π)).drop os.length).length = lo.length := by
    have := congrArg List.length hd
    rw [List.length_map, List.length_append] at this
    omega
  exact CallVC.meth (H0 := os ++ (π.map fun i => (lo.getD i .gone).ren (posOf π)).drop os.length) π (h _) ea hd el (by rw [List.length_append, ol]; exact hlen) p1 p2 p3 k

/-- The same two, with everything told. -/
theorem CallVC.methM' {f : Nat} {args args' : List AV} {lo os os' : List Ob} {K : AV → List Ob → List Ob → Prop} {r : PV} (π : List Nat) (n : Nat) (lo' : List Ob) (h : Meth P f args' os r os') (hn : lo.length = n)
    (ea : AV.rens (posOf π) args = args') (eo : (π.map fun i => (lo.getD i .gone).ren (posOf π)).take os.length = os) (ol : os'.length = os.length)
    (el : ((List.range n).map fun i => ((os' ++ (π.map fun i => (lo.getD i .gone).ren (posOf π)).drop os.length).getD (posN i π) .gone).ren (backOf π)) = lo')
    (p1 : π.Nodup) (p2 : ∀ k, k < n → k ∈ π) (p3 : π.length = n) (k : K (.p r) [] lo') : CallVC P f args [] lo K := by
  subst hn
  exact CallVC.methM π h ea eo ol el p1 p2 p3 k
theorem CallVC.methV' {f : Nat} {args args' : List AV} {lo os os' : List Ob} {K : AV → List Ob → List Ob → Prop} {r : AV} (π : List Nat) (n : Nat) (lo' : List Ob) (r' : AV) (h : MethV P f args' os r os') (hn : lo.length = n)
    (ea : AV.rens (posOf π) args = args') (eo : (π.map fun i => (lo.getD i .gone).ren (posOf π)).take os.length = os) (ol : os'.length = os.length) (er : r.ren (backOf π) = r')
    (el : ((List.range n).map fun i => ((os' ++ (π.map fun i => (lo.getD i .gone).ren (posOf π)).drop os.length).getD (posN i π) .gone).ren (backOf π)) = lo')
    (p1 : π.Nodup) (p2 : ∀ k, k < n → k ∈ π) (p3 : π.length = n) (k : K r' [] lo') : CallVC P f args [] lo K := by
  subst hn; subst er
  exact CallVC.methV π h ea eo ol el p1 p2 p3 k

theorem Lend.all {ba lo : List Ob} (r : Rf) (g sz len : Nat) {es : List PV} (h : findO ba lo r = some (.buf g sz es)) (hl : len = es.length) : Lend ba lo (.view r g sz len) (.list sz es) := by
  have := Lend.view r g sz len es h (by omega)
  rw [hl, List.take_length] at this
  rw [hl]
  exact this

theorem Meth.args {f : Nat} {xs ys : List AV} {os os' : List Ob} {r : PV} (h : Meth P f ys os r os') (hl : AVles xs ys) : Meth P f xs os r os' := fun rest => (h rest).args hl

end
end Go.Proofs.Ytemfnlidinnniaa.AD

namespace Go.Proofs.Ytemfnlidinnniaa.AD
set_option linter.unusedVariables false
section
variable {P : Program}

/-- Values in which nothing is held but own objects. -/
inductive FlatA : AV → Prop
  | p (v : PV) : Flat v → FlatA (.p v)
  | ref (r : Rf) (o : Nat) : FlatA (.ref r o)
  | view (r : Rf) (g sz len : Nat) : FlatA (.view r g sz len)
  | elt (r : Rf) (g sz i o : Nat) : FlatA (.elt r g sz i o)
  | mapr (r : Rf) : FlatA (.mapr r)
  | clos (f : Fn) (vs bs : List AV) : (∀ a, a ∈ vs → FlatA a) → (∀ a, a ∈ bs → FlatA a) → FlatA (.clos f vs bs)
  | agg (cs : List AV) : (∀ a, a ∈ cs → FlatA a) → FlatA (.agg cs)
  | tup (cs : List AV) : (∀ a, a ∈ cs → FlatA a) → FlatA (.tup cs)
def FlatO : Ob → Prop
  | .cells cs => ∀ a, a ∈ cs → FlatA a
  | .loop _ _ _ cs _ => ∀ a, a ∈ cs → FlatA a
  | .buf _ _ es => ∀ e, e ∈ es → Flat e
  | .map es => ∀ e, e ∈ es → Flat e.1 ∧ Flat e.2
  | .gone => True

theorem VA.anyM {M M' : Nat → Prop} {n0 : Nat} {μ : List MI} {w : World} {v : Value} {a : AV} (h : VA ⟨M, n0, μ⟩ w v a) : FlatA a → VA ⟨M', n0, μ⟩ w v a := by
  have hat : ∀ {r : Rf} {m : MI}, Ctx.at ⟨M, n0, μ⟩ r = some m → Ctx.at ⟨M', n0, μ⟩ r = some m := fun {r m} h => by
    cases r <;> exact h
  induction h with
  | p v e h =>
    intro hf
    cases hf with
    | p _ hf => exact .p v e (h.anywhere hf)
  | ref r off b h => intro _; exact .ref _ off b (hat h)
  | view0 r g' sz n h => intro _; exact .view0 _ g' sz n (hat h)
  | view r g' sz n b len cap h hl hc => intro _; exact .view _ g' sz n b len cap (hat h) hl hc
  | viewOld v r g' sz len b g2 n h hg h0 => intro _; exact .viewOld v _ g' sz len b g2 n (hat h) hg h0
  | viewGone v r g' sz len h h0 => intro _; exact .viewGone v _ g' sz len (hat h) h0
  | elt r g' sz n b idx off h => intro _; exact .elt _ g' sz n b idx off (hat h)
  | eltOld v r g' sz idx off b g2 n h hg h0 => intro _; exact .eltOld v _ g' sz idx off b g2 n (hat h) hg h0
  | eltGone v r g' sz idx off h h0 => intro _; exact .eltGone v _ g' sz idx off (hat h) h0
  | mapr r b h => intro _; exact .mapr _ b (hat h)
  | maprGone v r h h0 => intro _; exact .maprGone v _ (hat h) h0
  | clos f xs ys vs bs h1 h2 _ _ ih1 ih2 =>
    intro hf
    cases hf with
    | clos _ _ _ f1 f2 => exact .clos f xs ys vs bs h1 h2 (fun j x c hx hc => ih1 j x c hx hc (f1 c (List.mem_of_getElem? hc))) (fun j x c hx hc => ih2 j x c hx hc (f2 c (List.mem_of_getElem? hc)))
  | agg xs cs h1 _ h3 ih =>
    intro hf
    cases hf with
    | agg _ f1 => exact .agg xs cs h1 (fun j x c hx hc => ih j x c hx hc (f1 c (List.mem_of_getElem? hc))) h3
  | tup xs cs h1 _ ih =>
    intro hf
    cases hf with
    | tup _ f1 => exact .tup xs cs h1 (fun j x c hx hc => ih j x c hx hc (f1 c (List.mem_of_getElem? hc)))

theorem ObOk.anyM {M M' : Nat → Prop} {n0 : Nat} {μ : List MI} {w : World} {m : MI} {o : Ob} (h : ObOk ⟨M, n0, μ⟩ w m o) (hf : FlatO o) : ObOk ⟨M', n0, μ⟩ w m o := by
  cases h with
  | cells b xs t cs a1 a2 a3 => exact .cells b xs t _ a1 a2 fun j x c hx hc => ⟨(a3 j x c hx hc).1.anyM (hf c (List.mem_of_getElem? hc)), (a3 j x c hx hc).2⟩
  | buf0 g sz n => exact .buf0 g sz n
  | buf b g n sz xs t es c a1 a2 a3 a4 => exact .buf b g n sz xs t es c a1 a2 a3 fun j e he => ⟨(a4 j e he).1, (a4 j e he).2.1, (a4 j e he).2.2.anywhere (hf e (List.mem_of_getElem? he))⟩
  | map b clock xs es a1 a2 a3 => exact .map b clock xs es a1 a2 fun j x e hx he => ⟨(a3 j x e hx he).1.anywhere (hf e (List.mem_of_getElem? he)).1, (a3 j x e hx he).2.anywhere (hf e (List.mem_of_getElem? he)).2⟩
  | loop l r ks cs st p a1 a2 a0 a3 => exact .loop l r ks cs st p a1 a2 a0 fun j t c hj hc => (a3 j t c hj hc).anyM (hf c (List.mem_of_getElem? hc))
  | gone => exact .gone

theorem ObOk.lt {Γ : Ctx} {w : World} {m : MI} {o : Ob} (h : ObOk Γ w m o) {b : Nat} (hb : m.block? = some b) : b < w.heap.size := by
  cases h with
  | cells b xs t cs a1 => cases hb; exact (Array.getElem?_eq_some_iff.1 a1).1
  | buf0 => cases hb
  | buf b g n sz xs t es c a1 => cases hb; exact (Array.getElem?_eq_some_iff.1 a1).1
  | map b clock xs es a1 => cases hb; exact (Array.getElem?_eq_some_iff.1 a1).1
  | loop l r ks cs st p a1 => cases hb; exact (Array.getElem?_eq_some_iff.1 a1).1
  | gone => cases hb
theorem Inv.lt {μ : List MI} {w : World} {ba lo : List Ob} (h : Inv μ w ba lo) {b : Nat} (hb : blocks μ b) : b < w.heap.size := by
  obtain ⟨i, m, hm, hmb⟩ := hb
  have hi := get_lt hm
  rw [h.len] at hi
  rcases Nat.lt_or_ge i ba.length with hl | hl
  · obtain ⟨m', h1, h2⟩ := h.bases i ba[i] (List.getElem?_eq_getElem hl)
    rw [h1] at hm; cases hm
    exact h2.lt hmb
  · have hk : i - ba.length < lo.length := by omega
    obtain ⟨m', h1, h2⟩ := h.locs (i - ba.length) lo[i - ba.length] (List.getElem?_eq_getElem hk)
    rw [Nat.add_sub_cancel' hl] at h1
    rw [h1] at hm; cases hm
    exact h2.lt hmb

def upR (n : Nat) : Rf → Rf
  | .l k => .l (n + k)
  | r => r

theorem blocks_append {μ μ' : List MI} {b : Nat} : blocks (μ ++ μ') b → blocks μ b ∨ blocks μ' b := by
  rintro ⟨i, m, hm, hb⟩
  rcases Nat.lt_or_ge i μ.length with hl | hl
  · rw [List.getElem?_append_left hl] at hm; exact .inl ⟨i, m, hm, hb⟩
  · rw [List.getElem?_append_right hl] at hm; exact .inr ⟨_, m, hm, hb⟩

theorem nil_args {M : Nat → Prop} {n0 : Nat} {μ : List MI} {w : World} {xs : Array Value} {ps : List PV} (hx : VAs ⟨M, n0, μ⟩ w xs (ps.map .p)) : VAs ⟨blocks [], 0, []⟩ w xs (ps.map .p) := by
  refine ⟨hx.1, fun j x a hj ha => ?_⟩
  have := hx.2 j x a hj ha
  rw [List.getElem?_map] at ha
  obtain ⟨p, hp, rfl⟩ := Option.map_eq_some_iff.1 ha
  exact .p _ _ (this.pv.mono ⟨Nat.le_refl _, fun b _ _ => ⟨fun ⟨i, m, h, _⟩ => by simp at h, rfl⟩⟩)

/-- What is made new stands behind what there is. -/
theorem CallVC.fresh {f : Nat} {ps : List PV} {lo os : List Ob} {r0 : AV} {K : AV → List Ob → List Ob → Prop} (h : CallVC P f (ps.map .p) [] [] fun r b l => r = r0 ∧ l = os) (hr : FlatA r0) (ho : ∀ o, o ∈ os → FlatO o)
    (n : Nat) (hn : lo.length = n) (k : K (r0.ren (upR n)) [] (lo ++ os.map (Ob.ren (upR n)))) : CallVC P f (ps.map .p) [] lo K := by
  subst hn
  refine ⟨fun μ w xs hi hx => ?_⟩
  refine (h.out [] w xs (inv_nil w) (nil_args hx)).mono fun e w' hw => ?_
  obtain ⟨v, r, μ', ba', lo', rfl, g2, g3, g4, g5, rfl, rfl⟩ := hw
  have hba : ba' = [] := List.length_eq_zero_iff.1 (by simpa using g5)
  subst hba
  have hμl : μ.length = lo.length := by rw [hi.len]; simp
  have none0 : ∀ b, ¬ blocks [] b := fun b ⟨i, m, h, _⟩ => by simp at h
  have hnew : ∀ b, b < w.heap.size → ¬ blocks μ' b ∧ w'.heap[b]? = w.heap[b]? := fun b hb => g4.stays.2 b hb (none0 b)
  have hst : Stays (blocks μ) w (blocks (μ ++ μ')) w' := ⟨g4.stays.1, fun b hb hm => ⟨fun hc => by
    rcases blocks_append hc with hc | hc
    · exact hm hc
    · exact (hnew b hb).1 hc, (hnew b hb).2⟩⟩
  have hab : Above μ (μ ++ μ') := fun i m hm => ⟨m, by rw [List.getElem?_append_left (get_lt hm)]; exact hm, .refl _⟩
  have hat : ∀ r m, Ctx.at ⟨blocks (μ ++ μ'), 0, μ'⟩ r = some m → Ctx.at ⟨blocks (μ ++ μ'), 0, μ ++ μ'⟩ (upR lo.length r) = some m := fun r m hm => by
    cases r with
    | l k =>
      simp only [Ctx.at, upR, Nat.zero_add] at hm ⊢
      rw [← hμl, List.getElem?_append_right (by omega), Nat.add_sub_cancel_left]
      exact hm
    | b id => simp [Ctx.at] at hm
  refine ⟨v, _, μ ++ μ', [], _, rfl, VA.ren (Γ := ⟨blocks (μ ++ μ'), 0, μ'⟩) (Γ' := ⟨blocks (μ ++ μ'), 0, μ ++ μ'⟩) (g := upR lo.length) (fun _ h => h) hat (VA.anyM g2 hr), ?_, ⟨g4.os, g4.tape, g4.output, hab, hst⟩, rfl, k⟩
  refine ⟨by have := g3.len; simp at this ⊢; omega, fun i j m m' b h1 h2 h3 h4 => ?_, fun i o ho => by simp at ho, fun k o hk => ?_⟩
  · rcases Nat.lt_or_ge i μ.length with hl | hl <;> rcases Nat.lt_or_ge j μ.length with hl2 | hl2
    · rw [List.getElem?_append_left hl] at h1
      rw [List.getElem?_append_left hl2] at h2
      exact hi.apart i j m m' b h1 h2 h3 h4
    · rw [List.getElem?_append_left hl] at h1
      rw [List.getElem?_append_right hl2] at h2
      exact absurd ⟨_, _, h2, h4⟩ (hnew b (hi.lt ⟨_, _, h1, h3⟩)).1
    · rw [List.getElem?_append_right hl] at h1
      rw [List.getElem?_append_left hl2] at h2
      exact absurd ⟨_, _, h1, h3⟩ (hnew b (hi.lt ⟨_, _, h2, h4⟩)).1
    · rw [List.getElem?_append_right hl] at h1
      rw [List.getElem?_append_right hl2] at h2
      have := g3.apart _ _ m m' b h1 h2 h3 h4
      omega
  · simp only [List.length_nil, Nat.zero_add]
    rcases Nat.lt_or_ge k lo.length with hl | hl
    · rw [List.getElem?_append_left hl] at hk
      obtain ⟨m, h1, h2⟩ := hi.locs k o hk
      simp only [List.length_nil, Nat.zero_add] at h1
      exact ⟨m, by rw [List.getElem?_append_left (get_lt h1)]; exact h1, h2.mono hst hab fun b hb => (hnew b (h2.lt hb)).2⟩
    · rw [List.getElem?_append_right hl, List.getElem?_map] at hk
      obtain ⟨o', ho', rfl⟩ := Option.map_eq_some_iff.1 hk
      obtain ⟨m, h1, h2⟩ := g3.locs _ o' ho'
      simp only [List.length_nil, Nat.zero_add] at h1
      exact ⟨m, by rw [List.getElem?_append_right (by omega), hμl]; exact h1, ObOk.ren (Γ := ⟨blocks (μ ++ μ'), 0, μ'⟩) (Γ' := ⟨blocks (μ ++ μ'), 0, μ ++ μ'⟩) (g := upR lo.length) (fun _ h => h) hat (ObOk.anyM h2 (ho o' (List.mem_of_getElem? ho')))⟩

/-! ### and may be told vs a plain value -/
inductive LendF (lo : List Ob) : AV → PV → Prop
  | p (v : PV) : Flat v → LendF lo (.p v) v
  | view (k g sz len : Nat) (es : List PV) : lo[k]? = some (.buf g sz es) → len = es.length → (∀ e, e ∈ es → Flat e) → LendF lo (.view (.l k) g sz len) (.list sz es)
  | agg (cs : List AV) (ps : List PV) : cs.length = ps.length → (∀ (j : Nat) (c : AV) (p : PV), cs[j]? = some c → ps[j]? = some p → LendF lo c p) → LendF lo (.agg cs) (.agg ps)
  | tup (cs : List AV) (ps : List PV) : cs.length = ps.length → (∀ (j : Nat) (c : AV) (p : PV), cs[j]? = some c → ps[j]? = some p → LendF lo c p) → LendF lo (.tup cs) (.tup ps)

theorem LendF.close {lo : List Ob} {a : AV} {p : PV} (h : LendF lo a p) : ∀ (μ : List MI) (w : World) (M : Nat → Prop), Inv μ w [] lo → (∀ b, blocks μ b → ¬ M b) → ∀ v, VA ⟨blocks μ, 0, μ⟩ w v a → VP M w v p := by
  induction h with
  | p v hf => intro μ w M hi hM x hx; exact hx.pv.anywhere hf
  | view k g sz len es hf hl hfl =>
    intro μ w M hi hM x hx
    subst hl
    obtain ⟨m, hm, hok⟩ := hi.locs k _ hf
    simp only [List.length_nil, Nat.zero_add] at hm
    have hat : Ctx.at ⟨blocks μ, 0, μ⟩ (.l k) = some m := by simp only [Ctx.at, Nat.zero_add]; exact hm
    generalize hlen : es.length = len at hx
    cases hx with
    | view0 _ _ _ n ha =>
      rw [List.length_eq_zero_iff.1 hlen]; exact .list0 _ _ _ fun _ => rfl
    | view _ _ _ n b _ cap ha hlc hcs =>
      rw [hat] at ha
      cases ha
      cases hok with
      | buf _ _ _ _ xs t _ c k1 k2 k3 k4 =>
        have hb : b < w.heap.size := (Array.getElem?_eq_some_iff.1 k1).1
        have hcell : ∀ (i : Nat) (y : Value), xs[i]? = some y → w.cell? ⟨b, 0 + i, none⟩ = some y := fun i y hy => by
          unfold World.cell?
          rw [k1]
          simp [hy]
        rw [← hlen]
        exact VP.list (M := M) (w := w) b 0 cap sz es c (hM b ⟨k, _, hm, rfl⟩) hb (by omega)
          (fun j e he => (k4 j e he).1)
          (fun j e he i y hy => ⟨((k4 j e he).2.1 i y hy).1, hcell _ _ ((k4 j e he).2.1 i y hy).2⟩)
          (fun j e he => (k4 j e he).2.2.anywhere (hfl e (List.mem_of_getElem? he)))
    | viewOld _ _ _ _ _ b g' n ha hg h0 =>
      rw [hat] at ha
      cases ha
      cases hok <;> exact absurd hg (Nat.lt_irrefl _)
    | viewGone _ _ _ _ _ ha h0 =>
      rw [hat] at ha
      cases ha
      cases hok
  | agg cs ps hl hc ih =>
    intro μ w M hi hM x hx
    cases hx with
    | agg xs _ k1 k2 k3 =>
      refine .agg xs ps (by rw [k1, hl]) (fun j y p hy hp => ?_) k3
      have hj2 : j < cs.length := by rw [hl]; exact get_lt hp
      exact ih j _ p (List.getElem?_eq_getElem hj2) hp μ w M hi hM y (k2 j y _ hy (List.getElem?_eq_getElem hj2))
  | tup cs ps hl hc ih =>
    intro μ w M hi hM x hx
    cases hx with
    | tup xs _ k1 k2 =>
      refine .tup xs ps (by rw [k1, hl]) (fun j y p hy hp => ?_)
      have hj2 : j < cs.length := by rw [hl]; exact get_lt hp
      exact ih j _ p (List.getElem?_eq_getElem hj2) hp μ w M hi hM y (k2 j y _ hy (List.getElem?_eq_getElem hj2))

theorem pureF_fresh {f : Nat} {ps : List PV} {R : PV} (h : CallVC P f (ps.map .p) [] [] fun r b l => LendF l r R) : AD.pureF P f (ps.map .p) (.p R) := by
  intro H μ w xs hi hx
  refine Calls.mono' (h.out [] w xs (inv_nil w) (nil_args hx)) fun e w' hw => ?_
  obtain ⟨v, r, μ', ba', lo', rfl, g2, g3, g4, g5, g6⟩ := hw
  have hba : ba' = [] := List.length_eq_zero_iff.1 (by simpa using g5)
  subst hba
  have hnew : ∀ b, b < w.heap.size → ¬ blocks μ' b ∧ w'.heap[b]? = w.heap[b]? := fun b hb => g4.stays.2 b hb fun ⟨i, m, h, _⟩ => by simp at h
  have hv : VP (blocks μ) w' v R := g6.close μ' w' (blocks μ) g3 (fun b hb hc => (hnew b (hi.lt hc)).1 hb) v g2
  exact ⟨v, _, _, μ, rfl, ⟨rfl, rfl⟩, hi.kept g4.stays.1 fun b hb => (hnew b hb).2, .p _ _ hv, g4.os, g4.tape, g4.output, .refl μ, g4.stays.1, fun b hb hm => ⟨hm, (hnew b hb).2⟩⟩

/-! ### a list that is nil yet, behind a call -/
theorem Inv.ghost {μ : List MI} {w : World} {ba lo : List Ob} (hi : Inv μ w ba lo) (m j sz : Nat) {cs : List AV} (h1 : lo[m]? = some (.cells cs)) (h2 : cs[j]? = some (.p .nils)) :
    Stays (blocks μ) w (blocks (μ ++ [.buf none 0 0])) w ∧ Above μ (μ ++ [.buf none 0 0]) ∧ Inv (μ ++ [.buf none 0 0]) w ba (lo.set m (.cells (cs.set j (.view (.l lo.length) 0 sz 0))) ++ [.buf 0 sz []]) := by
  have hblk : ∀ b, blocks (μ ++ [.buf none 0 0]) b → blocks μ b := by
    rintro b ⟨i, m', hm, hb⟩
    rcases Nat.lt_or_ge i μ.length with hl | hl
    · rw [List.getElem?_append_left hl] at hm; exact ⟨i, m', hm, hb⟩
    · rw [List.getElem?_append_right hl] at hm
      have : i - μ.length = 0 := by have := get_lt hm; simp at this; omega
      rw [this] at hm
      cases hm
      cases hb
  have hst : Stays (blocks μ) w (blocks (μ ++ [.buf none 0 0])) w := ⟨Nat.le_refl _, fun b _ hb => ⟨fun hc => hb (hblk b hc), rfl⟩⟩
  have hab : Above μ (μ ++ [.buf none 0 0]) := fun i m' hm => ⟨m', by rw [List.getElem?_append_left (get_lt hm)]; exact hm, .refl _⟩
  have hle : ba.length ≤ μ.length := by rw [hi.len]; omega
  have htk : (μ ++ [MI.buf none 0 0]).take ba.length = μ.take ba.length := List.take_append_of_le_length hle
  have obm : ∀ {m : MI} {o : Ob} {μ1 μ2 : List MI}, Above μ1 μ2 → ObOk ⟨blocks μ, ba.length, μ1⟩ w m o → ObOk ⟨blocks (μ ++ [.buf none 0 0]), ba.length, μ2⟩ w m o := fun ha ho => ho.mono hst ha fun b _ => rfl
  have hml := get_lt h1
  have hi2 : Inv (μ ++ [.buf none 0 0]) w ba (lo.set m (.cells (cs.set j (.view (.l lo.length) 0 sz 0))) ++ [.buf 0 sz []]) := by
    refine ⟨by simp [hi.len]; omega, fun a c m1 m2 b g1 g2 g3 g4 => ?_, fun i o ho => ?_, fun k o ho => ?_⟩
    · have lt : ∀ {a : Nat} {m1 : MI}, (μ ++ [.buf none 0 0])[a]? = some m1 → m1.block? = some b → μ[a]? = some m1 := fun {a m1} g1 g3 => by
        rcases Nat.lt_or_ge a μ.length with hl | hl
        · rwa [List.getElem?_append_left hl] at g1
        · rw [List.getElem?_append_right hl] at g1
          have : a - μ.length = 0 := by have := get_lt g1; simp at this; omega
          rw [this] at g1
          cases g1
          cases g3
      exact hi.apart a c m1 m2 b (lt g1 g3) (lt g2 g4) g3 g4
    · obtain ⟨m1, g1, g2⟩ := hi.bases i o ho
      refine ⟨m1, by rw [List.getElem?_append_left (get_lt g1)]; exact g1, ?_⟩
      rw [htk]
      exact obm (.refl _) g2
    · rcases Nat.lt_or_ge k lo.length with hk | hk
      · rw [List.getElem?_append_left (by simpa using hk), List.getElem?_set] at ho
        by_cases hkm : m = k
        · subst hkm
          rw [if_pos rfl, if_pos hml] at ho
          cases ho
          obtain ⟨m1, g1, g2⟩ := hi.locs m _ h1
          refine ⟨m1, by rw [List.getElem?_append_left (get_lt g1)]; exact g1, ?_⟩
          cases obm hab g2 with
          | cells b ys t _ k1 k2 k3 =>
            refine .cells b ys t _ k1 (by simpa using k2) fun i x c hx hc => ?_
            rw [List.getElem?_set] at hc
            by_cases hij : j = i
            · subst hij
              rw [if_pos rfl, if_pos (get_lt h2)] at hc
              cases hc
              have hv := k3 j x _ hx h2
              refine ⟨?_, hv.2⟩
              have hx0 : x = .slice none 0 0 := by
                have := hv.1.pv
                cases this; rfl
              rw [hx0]
              exact .view0 _ _ _ 0 (by simp only [Ctx.at]; rw [← hi.len, List.getElem?_append_right (Nat.le_refl _), Nat.sub_self]; rfl)
            · rw [if_neg hij] at hc
              exact k3 i x c hx hc
        · rw [if_neg hkm] at ho
          obtain ⟨m1, g1, g2⟩ := hi.locs k o ho
          exact ⟨m1, by rw [List.getElem?_append_left (get_lt g1)]; exact g1, obm hab g2⟩
      · rw [List.getElem?_append_right (by simpa using hk)] at ho
        have hk2 : k = lo.length := by have := get_lt ho; simp at this; omega
        subst hk2
        simp at ho
        subst ho
        exact ⟨.buf none 0 0, by rw [← hi.len, List.getElem?_append_right (Nat.le_refl _), Nat.sub_self]; rfl, .buf0 _ _ _⟩
  exact ⟨hst, hab, hi2⟩

theorem CallVC.ghostP {f : Nat} {args : List AV} {ba lo : List Ob} {K : AV → List Ob → List Ob → Prop} (m j sz : Nat)
    (h : CallVC P f args ba lo fun r b l => ∃ cs, l[m]? = some (.cells cs) ∧ cs[j]? = some (.p .nils) ∧ K r b (l.set m (.cells (cs.set j (.view (.l l.length) 0 sz 0))) ++ [.buf 0 sz []])) : CallVC P f args ba lo K := by
  refine ⟨fun μ w xs hi hx => (h.out μ w xs hi hx).mono fun e w' hw => ?_⟩
  obtain ⟨v, r, μ', ba', lo', g1, g2, g3, g4, g5, cs, h1, h2, hk⟩ := hw
  obtain ⟨hst, hab, hi2⟩ := g3.ghost m j sz h1 h2
  rw [g5.symm] at g2
  have g2' : VA ⟨blocks (μ' ++ [.buf none 0 0]), ba.length, μ' ++ [.buf none 0 0]⟩ w' v r := by rw [← g5]; exact g2.mono hst hab
  exact ⟨v, r, _, ba', _, g1, g2', hi2, ⟨g4.os, g4.tape, g4.output, g4.above.trans hab, g4.stays.trans hst⟩, g5, hk⟩

theorem CallVC.args {f : Nat} {vs bs : List AV} {ba lo : List Ob} {K : AV → List Ob → List Ob → Prop} (h : CallVC P f bs ba lo K) (hl : AVles vs bs) : CallVC P f vs ba lo K := by
  obtain ⟨h1, h2⟩ := hl.out
  refine ⟨fun μ w xs hi hx => h.out μ w xs hi ⟨by rw [hx.1, h1], fun j x b hj hb => ?_⟩⟩
  obtain ⟨a, ha, hv⟩ := h2 j b hb
  exact hv _ _ _ (hx.2 j x a hj ha)

end
end Go.Proofs.Ytemfnlidinnniaa.AD
