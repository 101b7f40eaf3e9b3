/- A plainer machine, eighteen: operations in any order. -/
import Derived.Test.YtkjidklifmcpnaaA17
namespace Go.Proofs.Ytkjidklifmcpnaa.AD
set_option linter.unusedVariables false
set_option linter.unusedSimpArgs false
section
variable {P : Program} {N B : Nat} {ro : Option Nat} {nd : Nat}

/-- One operation, from these objects to those. -/
def StepAt (P : Program) (o : Oper) (v : AV) (fr : FR) (ba lo ba' lo' : List Ob) : Prop :=
  ∀ (ro : Option Nat) (nd : Nat) (μ : List MI) (w : World) (a : Act) (next : Act → World → Prop) (Q : Exit → Act → World → Prop), Inv μ w ba lo → Opnds o a μ w ba fr →
    (∀ c μ' w', VA ⟨blocks μ', ba.length, μ'⟩ w' c v → Inv μ' w' ba' lo' → Le μ w μ' w' → ba'.length = ba.length → next (a.put o.dst c) w') → o.wpIn (FW ro) nd P a w next Q

theorem stepAt_op {o : Oper} {i : IOp} {own : List Nat} {d : Bool} {fr : FR} {ba lo : List Ob} {K : AV → List Ob → List Ob → Prop} (hc : compO P own o = some i) (hn : isCall i = false) (h : opV P d i fr ba lo K) : ∃ v ba' lo', K v ba' lo' ∧ StepAt P o v fr ba lo ba' lo' := by
  obtain ⟨v, ba', lo', hk, hgv⟩ := op_out hc hn h
  refine ⟨v, ba', lo', hk, fun ro nd μ w a next Q hi ho hnext => ?_⟩
  obtain ⟨c, w', μ', hrun, g1, g2, g3, g4⟩ := hgv μ w a hi ho
  unfold Oper.wpIn
  refine ⟨fun _ _ => trivial, ?_⟩
  rw [Oper.semAt_eq _ _ _ (not_defer hc h)]
  rcases hrun with hrun | ⟨hrun, rfl⟩
  · rw [hrun, Oper.uponIn_value]; exact hnext c μ' w' g1 g2 g3 g4
  · rw [hrun, Oper.uponIn_skip]; exact hnext _ μ' w' g1 g2 g3 g4

theorem stepAt_of {o : Oper} {i : IOp} {own : List Nat} {v : AV} {fr : FR} {ba lo : List Ob} (hc : compO P own o = some i) (h : opV P false i fr ba lo fun v' b l => v' = v ∧ b = ba ∧ l = lo) : StepAt P o v fr ba lo ba lo := by
  cases hn : isCall i with
  | false =>
    obtain ⟨v', ba', lo', ⟨rfl, rfl, rfl⟩, hs⟩ := stepAt_op hc hn h
    exact hs
  | true =>
    intro ro nd μ w a next Q hi ho hnext
    refine call_op hc hn h hi ho fun c r μ' w' ba' lo' g1 g2 g3 g4 g5 => ?_
    obtain ⟨rfl, rfl, rfl⟩ := g5
    exact hnext c μ' w' g1 g2 g3 g4

/-- One operation where the order is open. -/
structure StepC (P : Program) (o : Oper) (io : IO_) (fr fr' : FR) (ba lo ba' lo' : List Ob) (v : AV) : Prop where
  put : fr' = putF fr io.dst v
  low : effect io.op < 2 → ba' = ba ∧ lo' = lo
  new : effect io.op = 3 → ba' = ba ∧ ∃ X, lo' = lo ++ X
  out : (∃ t b, io.guard = some (t, b) ∧ Unw (getF fr t) b ∧ v = .p (.tup []) ∧ ba' = ba ∧ lo' = lo) ∨
    ((∀ t b, io.guard = some (t, b) → getF fr t = .p (.bool b)) ∧ StepAt P o v fr ba lo ba' lo' ∧ (effect io.op = 0 → ∀ ba2 lo2, StepAt P o v fr ba2 lo2 ba2 lo2) ∧ (effect io.op = 1 → ∀ X, StepAt P o v fr ba (lo ++ X) ba (lo ++ X)))

theorem call_effect {i : IOp} (h : isCall i = true) : effect i = 1 ∨ ∃ f a, i = .callE f a := by cases i <;> first | exact .inl rfl | exact .inr ⟨_, _, rfl⟩ | cases h

def Seen (P : Program) (x : IOp × FR × AV) (ba lo : List Ob) : Prop := ∀ K : AV → List Ob → List Ob → Prop, K x.2.2 ba lo → opV P false x.1 x.2.1 ba lo K

theorem step_of {own : List Nat} {o : Oper} {i : IOp} {fr : FR} {ba lo : List Ob} {K : AV → List Ob → List Ob → Prop} (hc : compO P own o = some i) (h : opV P true i fr ba lo K) :
    ∃ v ba' lo', K v ba' lo' ∧ (effect i < 2 → ba' = ba ∧ lo' = lo) ∧ (effect i = 3 → ba' = ba ∧ ∃ X, lo' = lo ++ X) ∧ StepAt P o v fr ba lo ba' lo' ∧ (effect i = 0 → ∀ ba2 lo2, StepAt P o v fr ba2 lo2 ba2 lo2) ∧ (effect i = 1 → ∀ X, StepAt P o v fr ba (lo ++ X) ba (lo ++ X)) ∧ (effect i = 1 → Seen P (i, fr, v) ba lo) := by
  by_cases h0 : effect i = 0
  · obtain ⟨v, hk, h1⟩ := opV_quiet h0 h
    have hs : ∀ ba2 lo2, StepAt P o v fr ba2 lo2 ba2 lo2 := fun ba2 lo2 => stepAt_of hc (h1 ba2 lo2 _ ⟨rfl, rfl, rfl⟩)
    exact ⟨v, ba, lo, hk, fun _ => ⟨rfl, rfl⟩, fun _ => ⟨rfl, [], by simp⟩, hs _ _, fun _ => hs, fun _ X => hs _ _, fun e => by omega⟩
  · by_cases h1 : effect i = 1
    · obtain ⟨v, hk, h2⟩ := opV_reader h1 h
      have hs : ∀ X, StepAt P o v fr ba (lo ++ X) ba (lo ++ X) := fun X => stepAt_of hc (h2 X _ ⟨rfl, rfl, rfl⟩)
      exact ⟨v, ba, lo, hk, fun _ => ⟨rfl, rfl⟩, fun _ => ⟨rfl, [], by simp⟩, by have := hs []; rw [List.append_nil] at this; exact this, fun e => absurd e h0, fun _ => hs, fun _ K' hk' => by have := h2 [] K' (by rw [List.append_nil]; exact hk'); rwa [List.append_nil] at this⟩
    · by_cases hE : ∃ f a, i = .callE f a
      · obtain ⟨f, args, rfl⟩ := hE
        simp only [opV, evsK_eq] at h
        obtain ⟨r, ba', lo', h2, hk⟩ := h.out
        refine ⟨r, ba', lo', hk, fun e => absurd e (by simp [effect]), fun e => absurd e (by simp [effect]), ?_, fun e => absurd e h0, fun e => absurd e h1, fun e => absurd e h1⟩
        intro ro nd μ w a next Q hi ho hnext
        refine call_op (K := fun r' b l => r' = r ∧ b = ba' ∧ l = lo') hc rfl (by simp only [opV, evsK_eq]; exact h2) hi ho fun c r' μ' w' ba2 lo2 g1 g2 g3 g4 g5 => ?_
        obtain ⟨rfl, rfl, rfl⟩ := g5
        exact hnext c μ' w' g1 g2 g3 g4
      have hn : isCall i = false := by
        cases hb : isCall i with
        | false => rfl
        | true => rcases call_effect hb with e | e <;> contradiction
      have h' : opV P true i fr ba lo fun v b l => K v b l ∧ (effect i = 3 → b = ba ∧ ∃ X, l = lo ++ X) := by
        by_cases h3 : effect i = 3
        · cases i <;> simp only [effect] at h3 <;> try (cases h3; done)
          case alloc z =>
            simp only [opV, upPK_eq, pushK_eq] at h ⊢
            exact ⟨h, fun _ => ⟨trivial, _, rfl⟩⟩
          case box x =>
            simp only [opV, evK_eq] at h ⊢
            obtain ⟨cs, h, h2⟩ := cellsK_pt h
            rw [pushK_eq] at h
            exact h2 _ (by rw [pushK_eq]; exact ⟨h, fun _ => ⟨trivial, _, rfl⟩⟩)
          case lit own _ _ _ _ => cases own <;> simp at h3
          case nilb sz =>
            simp only [opV, pushK_eq] at h ⊢
            exact ⟨h, fun _ => ⟨trivial, _, rfl⟩⟩
        · have e : (fun v b l => K v b l ∧ (effect i = 3 → b = ba ∧ ∃ X, l = lo ++ X)) = K := by
            funext v b l
            exact propext ⟨fun h => h.1, fun h => ⟨h, fun e => absurd e h3⟩⟩
          rw [e]; exact h
      obtain ⟨v, ba', lo', ⟨hk, hx⟩, hs⟩ := stepAt_op hc hn h'
      exact ⟨v, ba', lo', hk, fun e => by omega, hx, hs, fun e => absurd e h0, fun e => absurd e h1, fun e => absurd e h1⟩

/-- The run in the text's order. -/
theorem canon {own : List Nat} {all : List Oper} {K : FR → List Ob → List Ob → Prop} : ∀ (l : List Oper) (is : List IO_) (i : Nat), compOps P N own all i l = some is → ∀ {fr : FR} {ba lo : List Ob}, opsV P true is fr ba lo K →
    ∃ (F : Nat → FR) (B' L : Nat → List Ob) (V : Nat → AV), F 0 = fr ∧ B' 0 = ba ∧ L 0 = lo ∧ K (F l.length) (B' l.length) (L l.length) ∧
      ∀ j o io, l[j]? = some o → is[j]? = some io → StepC P o io (F j) (F (j + 1)) (B' j) (L j) (B' (j + 1)) (L (j + 1)) (V j)
  | [], is, i, hc, fr, ba, lo, h => by
    cases hc
    exact ⟨fun _ => fr, fun _ => ba, fun _ => lo, fun _ => .p .undef, rfl, rfl, rfl, h, fun j o io e => by simp at e⟩
  | o :: l, is, i, hc, fr, ba, lo, h => by
    simp only [compOps] at hc
    split at hc
    · rename_i io ios hio hios
      cases hc
      obtain ⟨c1, c2, c3, c4⟩ := compI_out hio
      have rest : ∀ {v : AV} {ba' lo' : List Ob}, StepC P o io fr (putF fr io.dst v) ba lo ba' lo' v → opsV P true ios (putF fr io.dst v) ba' lo' K → ∃ (F : Nat → FR) (B' L : Nat → List Ob) (V : Nat → AV), F 0 = fr ∧ B' 0 = ba ∧ L 0 = lo ∧ K (F (o :: l).length) (B' (o :: l).length) (L (o :: l).length) ∧
          ∀ j o' io', (o :: l)[j]? = some o' → (io :: ios)[j]? = some io' → StepC P o' io' (F j) (F (j + 1)) (B' j) (L j) (B' (j + 1)) (L (j + 1)) (V j) := fun {v ba' lo'} hs h => by
        obtain ⟨F, B', L, V, e1, e2, e3, hk, hst⟩ := canon l ios (i + 1) hios h
        refine ⟨fun j => match j with | 0 => fr | j + 1 => F j, fun j => match j with | 0 => ba | j + 1 => B' j, fun j => match j with | 0 => lo | j + 1 => L j, fun j => match j with | 0 => v | j + 1 => V j, rfl, rfl, rfl, hk, fun j o' io' h1 h2 => ?_⟩
        cases j with
        | zero =>
          simp at h1 h2
          subst h1; subst h2
          show StepC P o io fr (F 0) ba lo (B' 0) (L 0) v
          rw [e1, e2, e3]; exact hs
        | succ j => exact hst j o' io' (by simpa using h1) (by simpa using h2)
      rcases opsV_cons h with ⟨hg, h⟩ | ⟨t, b, hg, hv, h⟩
      · obtain ⟨v, ba', lo', hk, s1, s2, s3, s4, s5, _⟩ := step_of c2 h
        exact rest ⟨rfl, s1, s2, .inr ⟨hg, s3, s4, s5⟩⟩ (nextK_out hk)
      · exact rest ⟨rfl, fun _ => ⟨rfl, rfl⟩, fun _ => ⟨rfl, [], by simp⟩, .inl ⟨t, b, hg, hv, rfl, rfl, rfl⟩⟩ h
    · cases hc

theorem compOps_get {own : List Nat} {all : List Oper} : ∀ (l : List Oper) (is : List IO_) (i : Nat), compOps P N own all i l = some is → is.length = l.length ∧ ∀ j o io, l[j]? = some o → is[j]? = some io → compI P N own all (i + j) o = some io
  | [], is, i, hc => by cases hc; exact ⟨rfl, fun j o io e => by simp at e⟩
  | o :: l, is, i, hc => by
    simp only [compOps] at hc
    split at hc
    · rename_i io ios hio hios
      cases hc
      obtain ⟨h1, h2⟩ := compOps_get l ios (i + 1) hios
      refine ⟨by simp [h1], fun j o' io' e1 e2 => ?_⟩
      cases j with
      | zero => simp at e1 e2; subst e1; subst e2; exact hio
      | succ j => have := h2 j o' io' (by simpa using e1) (by simpa using e2); rwa [show i + 1 + j = i + (j + 1) by omega] at this
    · cases hc

/-! #### which stands ahead of which -/

/-- With an operation all those that it waits for. -/
def Shut (all : List Oper) (S : Nat → Prop) : Prop := ∀ i o, all[i]? = some o → S i → ∀ e, e ∈ o.after.toList → Region.binds .any e = true → S e.on

theorem bits_sound {acc : List Nat} {S : Nat → Prop} : ∀ (es : List Edge) (s : Nat), (∀ k, s.testBit k = true → S k) → (∀ e, e ∈ es → Region.binds .any e = true → S e.on ∧ ∀ k, (acc.getD e.on 0).testBit k = true → S k) →
    ∀ k, (es.foldl (fun s e => if Region.binds .any e then s ||| 2 ^ e.on ||| acc.getD e.on 0 else s) s).testBit k = true → S k
  | [], s, h, _, k, hk => h k hk
  | e :: r, s, h, h2, k, hk => by
    simp only [List.foldl_cons] at hk
    refine bits_sound r _ ?_ (fun e' he' => h2 e' (by simp [he'])) k hk
    intro k' hk'
    split at hk'
    · rename_i hb
      obtain ⟨h3, h4⟩ := h2 e (by simp) hb
      simp only [Nat.testBit_or, Bool.or_eq_true] at hk'
      rcases hk' with (hk' | hk') | hk'
      · exact h k' hk'
      · rw [Nat.testBit_two_pow] at hk'
        have : e.on = k' := by simpa using hk'
        rw [← this]; exact h3
      · exact h4 k' hk'
    · exact h k' hk'

theorem befores_sound (all : List Oper) : ∀ (l pre : List Oper) (acc : List Nat), all = pre ++ l → acc.length = pre.length →
    (∀ j o, j < acc.length → all[j]? = some o → ∀ S, Shut all S → (∀ e, e ∈ o.after.toList → Region.binds .any e = true → S e.on) → ∀ k, (acc.getD j 0).testBit k = true → S k) →
    ∀ j o, all[j]? = some o → ∀ S, Shut all S → (∀ e, e ∈ o.after.toList → Region.binds .any e = true → S e.on) → ∀ k,
      ((l.foldl (fun acc o => acc ++ [o.after.toList.foldl (fun s e => if Region.binds .any e then s ||| 2 ^ e.on ||| acc.getD e.on 0 else s) 0]) acc).getD j 0).testBit k = true → S k
  | [], pre, acc, he, hl, hg, j, o, hj, S, hS, hs, k, hk => hg j o (by rw [hl]; rw [he, List.append_nil] at hj; exact get_lt hj) hj S hS hs k hk
  | x :: l, pre, acc, he, hl, hg, j, o, hj, S, hS, hs, k, hk => by
    simp only [List.foldl_cons] at hk
    refine befores_sound all l (pre ++ [x]) _ (by simp [he]) (by simp [hl]) ?_ j o hj S hS hs k hk
    intro j' o' hj' ho' S' hS' hs' k' hk'
    rcases Nat.lt_or_ge j' acc.length with h1 | h1
    · rw [List.getD_eq_getElem?_getD, List.getElem?_append_left h1, ← List.getD_eq_getElem?_getD] at hk'
      exact hg j' o' h1 ho' S' hS' hs' k' hk'
    · have e : j' = acc.length := by simp at hj'; omega
      subst e
      have ex : o' = x := by
        rw [he, hl, List.getElem?_append_right (Nat.le_refl _)] at ho'
        simpa using ho'.symm
      subst ex
      rw [List.getD_eq_getElem?_getD, List.getElem?_append_right (Nat.le_refl _)] at hk'
      simp only [Nat.sub_self, List.getElem?_cons_zero, Option.getD_some] at hk'
      refine bits_sound _ 0 (fun k h => by simp at h) (fun e hem hb => ⟨hs' e hem hb, fun k2 hk2 => ?_⟩) k' hk'
      rcases Nat.lt_or_ge e.on acc.length with h2 | h2
      · have h3 : e.on < all.length := by rw [he]; simp; omega
        exact hg e.on all[e.on] h2 (List.getElem?_eq_getElem h3) S' hS' (hS' e.on all[e.on] (List.getElem?_eq_getElem h3) (hs' e hem hb)) k2 hk2
      · rw [List.getD_eq_getElem?_getD, List.getElem?_eq_none h2] at hk2
        simp at hk2

/-! #### what a place holds when some have been -/

def valS (D : Nat → Option Nat) (V : Nat → AV) (fr : FR) (S : Nat → Bool) : Nat → Nat → AV
  | 0, t => getF fr t
  | k + 1, t => if S k = true ∧ D k = some t then V k else valS D V fr S k t

theorem valS_agree {D : Nat → Option Nat} {V : Nat → AV} {fr : FR} {S : Nat → Bool} {i t : Nat} : ∀ {n : Nat}, (∀ j, j < n → D j = some t → (S j = true ↔ j < i)) → valS D V fr S n t = valS D V fr (fun _ => true) (min n i) t
  | 0, _ => by simp [valS]
  | n + 1, h => by
    have ih := valS_agree (n := n) (V := V) (fr := fr) fun j hj => h j (by omega)
    simp only [valS]
    rcases Nat.lt_or_ge n i with h1 | h1
    · rw [show min (n + 1) i = n + 1 by omega]
      rw [show min n i = n by omega] at ih
      simp only [valS]
      by_cases h2 : D n = some t
      · rw [if_pos ⟨(h n (by omega) h2).2 h1, h2⟩, if_pos ⟨trivial, h2⟩]
      · rw [if_neg (fun e => h2 e.2), if_neg (fun e => h2 e.2)]; exact ih
    · rw [show min (n + 1) i = min n i by omega, ← ih]
      rw [if_neg]
      intro e
      have := (h n (by omega) e.2).1 e.1
      omega

theorem valS_put {D : Nat → Option Nat} {V : Nat → AV} {fr : FR} {S S' : Nat → Bool} {i t : Nat} (hS : ∀ j, j ≠ i → S' j = S j) : ∀ {n : Nat}, D i ≠ some t → valS D V fr S' n t = valS D V fr S n t
  | 0, _ => rfl
  | n + 1, h => by
    simp only [valS, valS_put (n := n) hS h]
    by_cases e : n = i
    · subst e; rw [if_neg (fun e => h e.2), if_neg (fun e => h e.2)]
    · rw [hS n e]
theorem valS_self {D : Nat → Option Nat} {V : Nat → AV} {fr : FR} {S : Nat → Bool} {i t : Nat} (hi : S i = true) (hd : D i = some t) : ∀ {n : Nat}, i < n → (∀ j, j < n → i < j → D j = some t → S j = false) → valS D V fr S n t = V i
  | 0, h, _ => absurd h (by omega)
  | n + 1, h, h2 => by
    simp only [valS]
    by_cases e : n = i
    · subst e; rw [if_pos ⟨hi, hd⟩]
    · rw [if_neg, valS_self (n := n) hi hd (by omega) fun j hj => h2 j (by omega)]
      intro e2
      have := h2 n (by omega) (by omega) e2.2
      rw [this] at e2
      cases e2.1

theorem getD_set {l : Array Bool} {i j : Nat} (hi : i < l.size) : (l.setIfInBounds i true).getD j false = if j = i then true else l.getD j false := by
  by_cases h : j = i
  · subst h; simp [hi]
  · simp [Array.getElem?_setIfInBounds_ne (fun e => h e.symm), h]

theorem any_sound {m : Bool} {own : List Nat} {all : List Oper} {is : List IO_} {id : Nat} {Q : Exit → Act → World → Prop} {K : FR → List Ob → List Ob → Prop} {μ : List MI} {w : World} {a : Act} {fr : FR} {ba lo : List Ob} (hc : compOps P N own all 0 all = some is) (hd : drawOk m all is = true) (hm : P.follows .mixedOrders = true)
    {F : Nat → FR} {B' L : Nat → List Ob} {V : Nat → AV} (e1 : F 0 = fr) (e2 : B' 0 = ba) (e3 : L 0 = lo) (hk : K (F all.length) (B' all.length) (L all.length)) (hst : ∀ j o io, all[j]? = some o → is[j]? = some io → StepC P o io (F j) (F (j + 1)) (B' j) (L j) (B' (j + 1)) (L (j + 1)) (V j))
    (hread : m = true → ∀ j h o io, j < h → h ≤ all.length → all[j]? = some o → is[j]? = some io → effect io.op = 1 → (∀ t b, io.guard = some (t, b) → getF (F j) t = .p (.bool b)) → (∀ k, j < k → k < h → 2 ≤ effect (is.getD k default).op → ((befores all).getD k 0).testBit j = false) → StepAt P o (V j) (F j) (B' h) (L h) (B' h) (L h))
    (hr : Rel N B μ w a fr ba lo)
    (hq : ∀ fr' ba' lo' μ' w' a', K fr' ba' lo' → Rel N B μ' w' a' fr' ba' lo' → Le μ w μ' w' → ba'.length = ba.length → Q .normal a' w') : (Code.region id all.toArray true).wpIn (FW ro) nd P Q a w := by
  obtain ⟨hlen, hci⟩ := compOps_get all is 0 hc
  simp only [Nat.zero_add] at hci
  simp only [drawOk, Bool.and_eq_true, List.all_eq_true, List.mem_range, Bool.or_eq_true] at hd
  obtain ⟨⟨_, hpair⟩, hedge⟩ := hd
  have hedge : ∀ i o, all[i]? = some o → ∀ e, e ∈ o.after.toList → Region.binds .any e = true → e.on < i := fun i o ho e he hb => by
    have := hedge (o, i) (List.mk_mem_zipIdx_iff_getElem?.2 ho) e he
    simpa [hb] using this
  have hbef : ∀ j o, all[j]? = some o → ∀ S, Shut all S → (∀ e, e ∈ o.after.toList → Region.binds .any e = true → S e.on) → ∀ k, ((befores all).getD j 0).testBit k = true → S k :=
    befores_sound all all [] [] rfl rfl fun j o hj => absurd hj (by simp)
  -- the operations
  generalize hn : all.length = n at *
  let E : Nat → Nat := fun j => effect (is.getD j default).op
  let D : Nat → Option Nat := fun j => (all[j]?).bind (·.dst)
  have oi : ∀ j, j < n → ∃ o io, all[j]? = some o ∧ is[j]? = some io ∧ E j = effect io.op ∧ D j = o.dst ∧ io.dst = o.dst ∧ compI P N own all j o = some io ∧ StepC P o io (F j) (F (j + 1)) (B' j) (L j) (B' (j + 1)) (L (j + 1)) (V j) := fun j hj => by
    have h1 : all[j]? = some all[j] := List.getElem?_eq_getElem (by omega)
    have h2 : is[j]? = some is[j] := List.getElem?_eq_getElem (by omega)
    have h3 := hci j _ _ h1 h2
    refine ⟨_, _, h1, h2, ?_, ?_, (compI_out h3).2.2.1, h3, hst j _ _ h1 h2⟩
    · simp [E, h2]
    · simp [D, h1]
  have hF : ∀ i, i ≤ n → ∀ t, getF (F i) t = valS D V fr (fun _ => true) i t := by
    intro i
    induction i with
    | zero => intro _ t; rw [e1]; rfl
    | succ i ih =>
      intro hi t
      obtain ⟨o, io, h1, h2, h3, h4, h5, h6, h7⟩ := oi i (by omega)
      rw [h7.put, h5]
      simp only [valS, h4]
      cases hdst : o.dst with
      | none => simp only [putF]; rw [if_neg (by simp)]; exact ih (by omega) t
      | some d =>
        simp only [putF, get_set]
        by_cases e : d = t
        · subst e; rw [if_pos rfl, if_pos ⟨trivial, rfl⟩]
        · rw [if_neg e, if_neg (by simp [e])]; exact ih (by omega) t
  have same : ∀ p q, p ≤ q → q ≤ n → (∀ j, p ≤ j → j < q → E j < 2) → B' q = B' p ∧ L q = L p := by
    intro p q hpq
    induction hpq with
    | refl => intro _ _; exact ⟨rfl, rfl⟩
    | step hpq ih =>
      rename_i q
      intro hq hE
      obtain ⟨o, io, h1, h2, h3, h4, h5, h6, h7⟩ := oi q (by omega)
      obtain ⟨g1, g2⟩ := h7.low (by rw [← h3]; exact hE q hpq (by omega))
      obtain ⟨i1, i2⟩ := ih (by omega) fun j hj hj2 => hE j hj (by omega)
      exact ⟨g1.trans i1, g2.trans i2⟩
  have grow : ∀ p q, p ≤ q → q ≤ n → (∀ j, p ≤ j → j < q → E j < 2 ∨ E j = 3) → B' q = B' p ∧ ∃ X, L q = L p ++ X := by
    intro p q hpq
    induction hpq with
    | refl => intro _ _; exact ⟨rfl, [], by simp⟩
    | step hpq ih =>
      rename_i q
      intro hq hE
      obtain ⟨o, io, h1, h2, h3, h4, h5, h6, h7⟩ := oi q (by omega)
      obtain ⟨i1, X, i2⟩ := ih (by omega) fun j hj hj2 => hE j hj (by omega)
      rcases hE q hpq (by omega) with h8 | h8
      · obtain ⟨g1, g2⟩ := h7.low (by rw [← h3]; exact h8)
        exact ⟨g1.trans i1, X, g2.trans i2⟩
      · obtain ⟨g1, Y, g2⟩ := h7.new (by rw [← h3]; exact h8)
        exact ⟨g1.trans i1, X ++ Y, by rw [g2, i2, List.append_assoc]⟩
  have hE4 : ∀ j, E j ≤ 3 := fun j => by
    show effect _ ≤ 3
    generalize (is.getD j default).op = i
    cases i <;> simp only [effect] <;> first | omega | (split <;> omega)
  -- the invariant
  let J : Array Bool → Act → World → Prop := fun l a' w' => l.size = n ∧ Shut all (fun i => l.getD i false = true) ∧ a'.tmps.size = N ∧ a'.defers = a.defers ∧
    ∃ h μ', h ≤ n ∧ (∀ j, j < n → 2 ≤ E j → (l.getD j false = true ↔ j < h)) ∧ Inv μ' w' (B' h) (L h) ∧ (B' h).length = ba.length ∧ Le μ w μ' w' ∧
      ∀ t, VA ⟨blocks μ', ba.length, μ'⟩ w' (a'.tmps.getD t undef) (valS D V fr (fun j => l.getD j false) n t)
  have fin : ∀ l a' w', J l a' w' → (∀ i, i < n → l.getD i false = true) → Q .normal a' w' := by
    rintro l a' w' ⟨j1, j2, j3, j4, h, μ', j5, j6, j7, j8, j9, j10⟩ hall
    obtain ⟨s1, s2⟩ := same h n j5 (Nat.le_refl _) fun j hj hj2 => by
      rcases Nat.lt_or_ge (E j) 2 with h1 | h1
      · exact h1
      · have := (j6 j hj2 h1).1 (hall j hj2); omega
    refine hq (F n) (B' n) (L n) μ' w' a' hk ⟨by rw [s1, s2]; exact j7, j3, Nat.le_trans hr.base j9.stays.1, by rw [j4]; exact hr.defers.mono j9.stays, fun t => ?_⟩ j9 (by rw [s1]; exact j8)
    rw [s1, j8, hF n (Nat.le_refl _) t]
    have := valS_agree (D := D) (V := V) (fr := fr) (S := fun j => l.getD j false) (i := n) (t := t) (n := n) fun j hj _ => ⟨fun _ => hj, fun _ => hall j hj⟩
    rw [Nat.min_self] at this
    rw [← this]
    exact j10 t
  have ready : ∀ l i, l.size = n → (i ∈ Region.ready .any all.toArray l ↔ i < n ∧ l.getD i false = false ∧ ∀ o, all[i]? = some o → ∀ e, e ∈ o.after.toList → Region.binds .any e = true → l.getD e.on false = true) := by
    intro l i hl
    unfold Region.ready
    simp only [List.mem_filter, List.mem_range, Bool.and_eq_true, Bool.not_eq_true', List.size_toArray, hn]
    constructor
    · rintro ⟨h1, h2, h3⟩
      have hi : i < l.size := by omega
      refine ⟨h1, by simpa [hi] using h2, fun o ho e he hb => ?_⟩
      simp only [List.getElem?_toArray, ho, Option.map_some, Option.getD_some, ← Array.all_toList, List.all_eq_true] at h3
      simpa [hb] using h3 e he
    · rintro ⟨h1, h2, h3⟩
      have hi : i < l.size := by omega
      obtain ⟨o, _, ho, _⟩ := oi i h1
      refine ⟨h1, by simpa [hi] using h2, ?_⟩
      simp only [List.getElem?_toArray, ho, Option.map_some, Option.getD_some, ← Array.all_toList, List.all_eq_true]
      intro e he
      by_cases hb : Region.binds .any e = true
      · simp [h3 o ho e he hb]
      · simp [hb]
  have done : ∀ l a' w', J l a' w' → Region.ready .any all.toArray l = [] → Q .normal a' w' := by
    intro l a' w' hj hrd
    refine fin l a' w' hj fun i hi => ?_
    induction i using Nat.strongRecOn with
    | _ i ih =>
      cases hb : l.getD i false with
      | true => rfl
      | false =>
        have : i ∈ Region.ready .any all.toArray l := (ready l i hj.1).2 ⟨hi, hb, fun o ho e he hbd => ih e.on (hedge i o ho e he hbd) (by have := hedge i o ho e he hbd; omega)⟩
        rw [hrd] at this
        cases this
  have step : ∀ l a' w' i, J l a' w' → i ∈ Region.ready .any all.toArray l → ∀ next : Act → World → Prop, (∀ a'' w'', J (l.setIfInBounds i true) a'' w'' → next a'' w'') → wpOpIn (FW ro) nd P all.toArray Q i next a' w' := by
    rintro l a' w' i ⟨j1, j2, j3, j4, h, μ', j5, j6, j7, j8, j9, j10⟩ hi next hnext
    obtain ⟨hin, hnl, hed⟩ := (ready l i j1).1 hi
    obtain ⟨o, io, h1, h2, h3, h4, h5, h6, h7⟩ := oi i hin
    obtain ⟨c1, c2, c3, c4⟩ := compI_out h6
    have hedo := hed o h1
    have getO : ∀ {j x}, all[j]? = some x → all.getD j default = x := fun {j x} e => by rw [List.getD_eq_getElem?_getD, e]; rfl
    have f1 : ∀ j oj, j < i → all[j]? = some oj → l.getD j false ≠ true → freePair m all.toArray oj o (E j) (E i) = true := fun j oj hji hoj hl => by
      rcases hpair i hin j hji with h8 | h8
      · exact absurd (hbef i o h1 _ j2 hedo j h8) hl
      · rwa [getO hoj, getO h1] at h8
    have f2 : ∀ j oj, j < n → i < j → all[j]? = some oj → l.getD j false = true → freePair m all.toArray o oj (E i) (E j) = true := fun j oj hjn hij hoj hl => by
      rcases hpair j hjn i hij with h8 | h8
      · have := hbef j oj hoj _ j2 (j2 j oj hoj hl) i h8
        rw [hnl] at this
        cases this
      · rwa [getO hoj, getO h1] at h8
    have agree : ∀ t, t ∈ o.looksAt all.toArray → VA ⟨blocks μ', ba.length, μ'⟩ w' (a'.tmps.getD t undef) (getF (F i) t) := fun t ht => by
      rw [hF i (by omega) t]
      have := valS_agree (D := D) (V := V) (fr := fr) (S := fun j => l.getD j false) (i := i) (t := t) (n := n) fun j hj hd => by
        obtain ⟨oj, ioj, k1, k2, k3, k4, _⟩ := oi j hj
        rw [k4] at hd
        constructor
        · intro hl
          rcases Nat.lt_trichotomy j i with h8 | h8 | h8
          · exact h8
          · subst h8; rw [hnl] at hl; cases hl
          · have := f2 j oj hj h8 k1 hl
            simp only [freePair, Bool.and_eq_true] at this
            exact absurd ht ((Oper.apart_spec this.1).2.2 t hd)
        · intro hji
          cases hb : l.getD j false with
          | true => rfl
          | false =>
            have := f1 j oj hji k1 (by rw [hb]; simp)
            simp only [freePair, Bool.and_eq_true] at this
            exact absurd ht ((Oper.apart_spec this.1).1 t hd)
      rw [Nat.min_eq_right (by omega)] at this
      rw [← this]
      exact j10 t
    have opn : Opnds o a' μ' w' (B' h) (F i) := fun x r hx hxr => by
      rw [j8]
      cases r with
      | v e => exact rv_const hxr
      | t m =>
        cases x with
        | tmp t =>
          cases hxr
          exact agree m (List.mem_append_left _ (List.mem_filterMap.2 ⟨.tmp m, hx, rfl⟩))
        | const v => simp only [rv] at hxr; obtain ⟨e, _, h2⟩ := map_some hxr; cases h2
        | func f => cases hxr
        | global g => cases hxr
    have shut' : Shut all (fun j => (l.setIfInBounds i true).getD j false = true) := fun j oj hoj hl e he hb => by
      show (l.setIfInBounds i true).getD e.on false = true
      have hl : (l.setIfInBounds i true).getD j false = true := hl
      rw [getD_set (by omega)] at hl ⊢
      split
      · rfl
      · by_cases e' : j = i
        · subst e'
          exact hed oj hoj e he hb
        · rw [if_neg e'] at hl
          exact j2 j oj hoj hl e he hb
    -- after it
    have after : ∀ (c : Value) (μ'' : List MI) (w'' : World) (h' : Nat), h' ≤ n → (∀ j, j < n → 2 ≤ E j → ((l.setIfInBounds i true).getD j false = true ↔ j < h')) → Inv μ'' w'' (B' h') (L h') → (B' h').length = ba.length → Le μ' w' μ'' w'' → VA ⟨blocks μ'', ba.length, μ''⟩ w'' c (V i) → next (a'.put o.dst c) w'' := by
      intro c μ'' w'' h' g1 g2 g3 g4 g5 g6
      refine hnext _ _ ⟨by simp [j1], shut', ?_, ?_, h', μ'', g1, g2, g3, g4, j9.trans g5, fun t => ?_⟩
      · cases o.dst <;> simp [Act.put, j3]
      · cases o.dst <;> simp [Act.put, j4]
      · have hS : ∀ j, j ≠ i → (l.setIfInBounds i true).getD j false = l.getD j false := fun j hj => by rw [getD_set (by omega), if_neg hj]
        have hSi : (l.setIfInBounds i true).getD i false = true := by rw [getD_set (by omega), if_pos rfl]
        by_cases hdt : D i = some t
        · rw [valS_self (S := fun j => (l.setIfInBounds i true).getD j false) hSi hdt hin fun j hj hij hdj => ?_]
          · rw [h4] at hdt
            have hlt := c1 t hdt
            have : (a'.put o.dst c).tmps.getD t undef = c := by rw [hdt]; simp [Act.put, j3, hlt]
            rw [this]; exact g6
          · rw [hS j (by omega)]
            cases hb : l.getD j false with
            | false => rfl
            | true =>
              obtain ⟨oj, ioj, k1, k2, k3, k4, _⟩ := oi j hj
              have := f2 j oj hj hij k1 hb
              simp only [freePair, Bool.and_eq_true] at this
              rw [k4] at hdj
              rw [h4] at hdt
              exact absurd hdj ((Oper.apart_spec this.1).2.1 t hdt)
        · rw [valS_put (S := fun j => l.getD j false) hS hdt]
          have : (a'.put o.dst c).tmps.getD t undef = a'.tmps.getD t undef := by
            rw [h4] at hdt
            cases hd2 : o.dst with
            | none => rfl
            | some d =>
              have : d ≠ t := fun e => hdt (by rw [hd2, e])
              simp [Act.put, Array.getElem?_setIfInBounds_ne this]
          rw [this]
          exact (j10 t).mono g5.stays g5.above
    -- the objects
    have later : E i < 2 → ∀ j, j < n → 2 ≤ E j → ((l.setIfInBounds i true).getD j false = true ↔ j < h) := fun hEi j hj h2 => by
      rw [getD_set (by omega), if_neg (by intro e; subst e; omega)]
      exact j6 j hj h2
    have ahead : 1 ≤ E i → ∀ j, j < i → 2 ≤ E j → l.getD j false = true := fun hEi j hji h2 => by
      cases hb : l.getD j false with
      | true => rfl
      | false =>
        obtain ⟨oj, ioj, k1, _⟩ := oi j (by omega)
        have := f1 j oj hji k1 (by rw [hb]; simp)
        simp only [freePair, Bool.and_eq_true, Bool.or_eq_true, beq_iff_eq] at this
        omega
    have here : 1 ≤ E i → h ≤ i → B' i = B' h ∧ L i = L h := fun hEi hle => same h i hle (by omega) fun j hj hji => by
      rcases Nat.lt_or_ge (E j) 2 with h8 | h8
      · exact h8
      · have := (j6 j (by omega) h8).1 (ahead hEi j hji h8); omega
    have before2 : 2 ≤ E i → h ≤ i := fun h8 => by
      rcases Nat.lt_or_ge i h with h9 | h9
      · have := (j6 i hin h8).2 h9; rw [hnl] at this; cases this
      · exact h9
    have after2 : 2 ≤ E i → ∀ j, j < n → 2 ≤ E j → ((l.setIfInBounds i true).getD j false = true ↔ j < i + 1) := fun hEi j hj h8 => by
      rw [getD_set (by omega)]
      have hle := before2 hEi
      rcases Nat.lt_trichotomy j i with h9 | h9 | h9
      · rw [if_neg (by omega)]; exact ⟨fun _ => by omega, fun _ => ahead (by omega) j h9 h8⟩
      · subst h9; simp
      · rw [if_neg (by omega)]
        exact ⟨fun e => by have := (j6 j hj h8).1 e; omega, fun e => by omega⟩
    unfold wpOpIn
    have h1' : all.toArray[i]? = some o := by simpa using h1
    simp only [h1']
    have guardV : ∀ t b, io.guard = some (t, b) → t ∈ o.looksAt all.toArray := fun t b hg => by
      rcases c4 with ⟨_, c5⟩ | ⟨j, b', g, t', k1, k2, k3, k4⟩
      · rw [c5] at hg; cases hg
      · rw [k4] at hg
        cases hg
        refine List.mem_append_right _ ?_
        simp [k1, k2, k3]
    rcases h7.out with ⟨t, b, hg, hv, hV, hB, hL⟩ | ⟨hg, hs, hs0, hs1⟩
    · rw [if_neg (by
        rw [unwanted_of h6 hg ((agree t (guardV t _ hg)).unw hv)]
        simp)]
      refine ⟨fun _ _ => trivial, ?_⟩
      have hund : VA ⟨blocks μ', ba.length, μ'⟩ w' undef (V i) := by rw [hV]; exact .skip _ _
      rcases Nat.lt_or_ge (E i) 2 with h8 | h8
      · exact after _ μ' w' h j5 (later h8) j7 j8 (.refl _ _) hund
      · obtain ⟨s1, s2⟩ := here (by omega) (before2 h8)
        exact after _ μ' w' (i + 1) (by omega) (after2 h8) (by rw [hB, hL, s1, s2]; exact j7) (by rw [hB, s1]; exact j8) (.refl _ _) hund
    · rw [if_pos (wanted_of h6 fun t b hgt => by have := agree t (guardV t b hgt); rw [hg t b hgt] at this; exact this.bool_inv)]
      rcases Nat.lt_or_ge (E i) 2 with h8 | h8
      · rcases Nat.eq_zero_or_pos (E i) with h9 | h9
        · refine hs0 (by rw [← h3]; exact h9) (B' h) (L h) ro nd μ' w' a' next Q j7 opn fun c μ'' w'' g1 g2 g3 g4 => ?_
          rw [j8] at g1
          exact after c μ'' w'' h j5 (later h8) g2 j8 g3 g1
        · have hE1 : E i = 1 := by omega
          have hx : StepAt P o (V i) (F i) (B' h) (L h) (B' h) (L h) := by
            rcases Nat.lt_or_ge i h with hlt | hge
            · cases hmm : m with
              | true =>
                refine hread hmm i h o io hlt j5 h1 h2 (by rw [← h3]; exact hE1) hg fun k hik hkh hk2 => ?_
                cases hbit : ((befores all).getD k 0).testBit i with
                | false => rfl
                | true =>
                  obtain ⟨ok, iok, q1, _⟩ := oi k (by omega)
                  have hdone := (j6 k (by omega) hk2).2 hkh
                  have hq := hbef k ok q1 _ j2 (j2 k ok q1 hdone) i hbit
                  rw [hnl] at hq
                  cases hq
              | false =>
                obtain ⟨b1, X, b2⟩ := grow i h (by omega) j5 fun j hj hj2 => by
                  rcases Nat.lt_or_ge (E j) 2 with h8 | h8
                  · exact .inl h8
                  · have hij : i < j := by
                      rcases Nat.lt_or_ge i j with h' | h'
                      · exact h'
                      · have : i = j := by omega
                        subst this; omega
                    obtain ⟨oj, ioj, k1, _⟩ := oi j (by omega)
                    have := f2 j oj (by omega) hij k1 ((j6 j (by omega) h8).2 hj2)
                    simp only [freePair, Bool.and_eq_true, Bool.or_eq_true, beq_iff_eq, hmm, Bool.false_eq_true, false_or] at this
                    right; omega
                have := hs1 (by rw [← h3]; exact hE1) X
                rw [← b1, ← b2] at this
                exact this
            · obtain ⟨s1, s2⟩ := here (by omega) hge
              have := hs1 (by rw [← h3]; exact hE1) []
              rw [List.append_nil, s1, s2] at this
              exact this
          refine hx ro nd μ' w' a' next Q j7 opn fun c μ'' w'' g1 g2 g3 g4 => ?_
          rw [j8] at g1
          exact after c μ'' w'' h j5 (later h8) g2 j8 g3 g1
      · obtain ⟨s1, s2⟩ := here (by omega) (before2 h8)
        have b3 : (B' i).length = ba.length := by rw [s1]; exact j8
        refine hs ro nd μ' w' a' next Q (by rw [s1, s2]; exact j7) (by rw [s1]; exact opn) fun c μ'' w'' g1 g2 g3 g4 => ?_
        rw [b3] at g1 g4
        exact after c μ'' w'' (i + 1) (by omega) (after2 h8) g2 g4 g3 g1
  have main : ∀ (fuel : Nat) (l : Array Bool) (a' : Act) (w' : World), l.count false ≤ fuel → J l a' w' → wpAnyIn (FW ro) nd P .any all.toArray Q fuel l a' w' := by
    intro fuel
    induction fuel with
    | zero =>
      intro l a' w' hcount hj
      have hnil : Region.ready .any all.toArray l = [] := by
        rw [List.eq_nil_iff_forall_not_mem]
        intro i hi
        obtain ⟨g1, g2, _⟩ := (ready l i hj.1).1 hi
        have hil : i < l.size := by rw [hj.1]; exact g1
        have : false ∈ l := by
          have : l[i] = false := by simpa [hil] using g2
          rw [← this]; exact Array.getElem_mem hil
        have := Array.count_pos_iff.2 this
        omega
      exact ⟨hnil, done l a' w' hj hnil⟩
    | succ fuel ih =>
      intro l a' w' hcount hj
      refine ⟨fun hnil => done l a' w' hj hnil, fun i hi => step l a' w' i hj hi _ fun a'' w'' hj' => ih _ _ _ ?_ hj'⟩
      obtain ⟨g1, g2, _⟩ := (ready l i hj.1).1 hi
      have hil : i < l.size := by rw [hj.1]; exact g1
      have hval : l[i] = false := by simpa [hil] using g2
      have hpos : 0 < l.count false := Array.count_pos_iff.2 (by rw [← hval]; exact Array.getElem_mem hil)
      have : l.setIfInBounds i true = l.set i true hil := by simp [Array.setIfInBounds, hil]
      rw [this, Array.count_set]
      simp [hval]
      omega
  refine wpIn_region_any hm (main _ _ _ _ ?_ ?_)
  · rw [Array.count_replicate]; split <;> omega
  · have hrep : ∀ j, (Array.replicate all.toArray.size false).getD j false = false := fun j => by
      simp only [Array.getD_eq_getD_getElem?]
      by_cases hj : j < all.toArray.size
      · simp at hj; simp [hj]
      · simp at hj; rw [Array.getElem?_eq_none (by simpa using hj)]; rfl
    refine ⟨by simp [hn], fun i o _ hi => ?_, hr.size, rfl, 0, μ, by omega, fun j hj _ => ?_, ?_, by rw [e2], ?_, fun t => ?_⟩
    · have hi : (Array.replicate all.toArray.size false).getD i false = true := hi
      rw [hrep] at hi; cases hi
    · rw [hrep]; simp
    · rw [e2, e3]
      exact hr.inv.grow (le_drew μ w) fun b _ => rfl
    · exact le_drew μ w
    · have : valS D V fr (fun j => (Array.replicate all.toArray.size false).getD j false) n t = getF fr t := by
        have := valS_agree (D := D) (V := V) (fr := fr) (S := fun j => (Array.replicate all.toArray.size false).getD j false) (i := 0) (t := t) (n := n) fun j hj _ => by rw [hrep]; simp
        rw [this, Nat.min_zero]; rfl
      rw [this]
      exact (hr.vals t).mono (le_drew μ w).stays (.refl _)

theorem dops_sound {own : List Nat} {all : List Oper} {is : List IO_} {id : Nat} {Q : Exit → Act → World → Prop} {K : FR → List Ob → List Ob → Prop} {μ : List MI} {w : World} {a : Act} {fr : FR} {ba lo : List Ob} (hc : compOps P N own all 0 all = some is) (hd : drawOk false all is = true) (hm : P.follows .mixedOrders = true) (h : opsV P true is fr ba lo K) (hr : Rel N B μ w a fr ba lo)
    (hq : ∀ fr' ba' lo' μ' w' a', K fr' ba' lo' → Rel N B μ' w' a' fr' ba' lo' → Le μ w μ' w' → ba'.length = ba.length → Q .normal a' w') : (Code.region id all.toArray true).wpIn (FW ro) nd P Q a w := by
  obtain ⟨F, B', L, V, e1, e2, e3, hk, hst⟩ := canon all is 0 hc h
  exact any_sound hc hd hm e1 e2 e3 hk hst (fun e => by cases e) hr hq

/-! ### where readers may come behind writers -/

theorem seen_of {i : IOp} {fr : FR} {ba lo : List Ob} {v : AV} {p : Prop} (he : effect i = 1) (h : opV P true i fr ba lo fun v' _ _ => v' = v ∧ p) : p ∧ Seen P (i, fr, v) ba lo := by
  obtain ⟨v', ⟨rfl, hp⟩, h2⟩ := opV_reader he h
  refine ⟨hp, fun K hk => ?_⟩
  have := h2 [] K (by rw [List.append_nil]; exact hk)
  rwa [List.append_nil] at this

theorem freeK_out {bits : Nat} : ∀ {l : LG} {k : LG → Prop}, freeK bits l k → ∃ l', k l' ∧ (∀ x, x ∈ l' → x ∈ l) ∧ ∀ x, x ∈ l → bits.testBit x.1 = false → x ∈ l'
  | [], k, h => ⟨[], h, fun x hx => hx, fun x hx => by cases hx⟩
  | (n, y) :: r, k, h => by
    replace h : match bits.testBit n with | true => freeK bits r k | false => freeK bits r fun r => k ((n, y) :: r) := h
    cases hb : bits.testBit n with
    | true =>
      rw [hb] at h
      obtain ⟨l', h1, h2, h3⟩ := freeK_out h
      refine ⟨l', h1, fun z hy => List.mem_cons.2 (.inr (h2 z hy)), fun z hy hy2 => ?_⟩
      rcases List.mem_cons.1 hy with rfl | hy
      · rw [hb] at hy2; cases hy2
      · exact h3 z hy hy2
    | false =>
      rw [hb] at h
      obtain ⟨l', h1, h2, h3⟩ := freeK_out h
      refine ⟨(n, y) :: l', h1, fun z hy => ?_, fun z hy hy2 => ?_⟩
      · rcases List.mem_cons.1 hy with rfl | hy
        · exact List.mem_cons.2 (.inl rfl)
        · exact List.mem_cons.2 (.inr (h2 z hy))
      · rcases List.mem_cons.1 hy with rfl | hy
        · exact List.mem_cons.2 (.inl rfl)
        · exact List.mem_cons.2 (.inr (h3 z hy hy2))

theorem lookAgain_out : ∀ (l : LG) {ba lo : List Ob} {K : Prop}, (∀ x, x ∈ l → effect x.2.1 = 1) → lookAgain P l ba lo K → K ∧ ∀ x, x ∈ l → Seen P x.2 ba lo
  | [], ba, lo, K, _, h => ⟨h, fun x hx => by cases hx⟩
  | x :: r, ba, lo, K, he, h => by
    obtain ⟨h1, h2⟩ := seen_of (he x (by simp)) (show opV P true x.2.1 x.2.2.1 ba lo fun v _ _ => v = x.2.2.2 ∧ lookAgain P r ba lo K from h)
    obtain ⟨h3, h4⟩ := lookAgain_out r (fun y hy => he y (by simp [hy])) h1
    refine ⟨h3, fun y hy => ?_⟩
    simp only [List.mem_cons] at hy
    rcases hy with rfl | hy
    · exact h2
    · exact h4 y hy

theorem effect_le (i : IOp) : effect i ≤ 3 := by
  cases i <;> simp only [effect] <;> first | omega | (split <;> omega)

/-- What follows an operation. -/
def nextE1 (P : Program) (o : IO_) (r : List IO_) (bs : List Nat) (idx : Nat) (fr : FR) (K : FR → List Ob → List Ob → Prop) (v : AV) (ba lo : List Ob) (log : LG) : Prop :=
  match o.split with
  | false => putK fr o.dst v fun fr => opsE P r bs idx log fr ba lo K
  | true => match v with
    | .p (.bool b) => splitB b fun b => putK fr o.dst (.p (.bool b)) fun fr => opsE P r bs idx log fr ba lo K
    | _ => False
def nextE (P : Program) (bits : Nat) (o : IO_) (r : List IO_) (bs : List Nat) (idx : Nat) (log : LG) (fr : FR) (K : FR → List Ob → List Ob → Prop) (v : AV) (ba lo : List Ob) : Prop :=
  logS P bits idx o.op fr v log ba lo (nextE1 P o r bs (idx + 1) fr K v ba lo)

theorem nextE1_out {o : IO_} {r : List IO_} {bs : List Nat} {idx : Nat} {log : LG} {K : FR → List Ob → List Ob → Prop} {fr : FR} {v : AV} {ba lo : List Ob} (h : nextE1 P o r bs idx fr K v ba lo log) : opsE P r bs idx log (putF fr o.dst v) ba lo K := by
  unfold nextE1 at h
  split at h
  · rwa [putK_eq] at h
  · split at h
    · have := splitB_out h
      rwa [putK_eq] at this
    · exact h.elim

/-- What is looked at again from here on. -/
theorem nextE_out {bits : Nat} {o : IO_} {r : List IO_} {bs : List Nat} {idx : Nat} {log : LG} {K : FR → List Ob → List Ob → Prop} {fr : FR} {v : AV} {ba lo : List Ob} (hl : ∀ x, x ∈ log → effect x.2.1 = 1) (h : nextE P bits o r bs idx log fr K v ba lo) :
    ∃ log', opsE P r bs (idx + 1) log' (putF fr o.dst v) ba lo K ∧ (effect o.op < 2 → (∀ x, x ∈ log → x ∈ log') ∧ (∀ x, x ∈ log' → x ∈ log ∨ (x = (idx, o.op, fr, v) ∧ effect o.op = 1)) ∧ (effect o.op = 1 → (idx, o.op, fr, v) ∈ log')) ∧
      (2 ≤ effect o.op → (∀ x, x ∈ log' → x ∈ log ∧ Seen P x.2 ba lo) ∧ ∀ x, x ∈ log → bits.testBit x.1 = false → x ∈ log') := by
  unfold nextE logS at h
  split at h
  · rename_i he
    exact ⟨log, nextE1_out h, fun _ => ⟨fun x hx => hx, fun x hx => .inl hx, fun e => by omega⟩, fun e => by omega⟩
  · rename_i he
    exact ⟨_, nextE1_out h, fun _ => ⟨fun x hx => List.mem_cons.2 (.inr hx), fun x hx => by
      rcases List.mem_cons.1 hx with hx | hx
      · exact .inr ⟨hx, he⟩
      · exact .inl hx, fun _ => List.mem_cons.2 (.inl rfl)⟩, fun e => by omega⟩
  · rename_i he0 he1
    obtain ⟨log', h1, h2, h3⟩ := freeK_out h
    obtain ⟨h4, h5⟩ := lookAgain_out log' (fun x hx => hl x (h2 x hx)) h1
    refine ⟨log', nextE1_out h4, fun e => ?_, fun _ => ⟨fun x hx => ⟨h2 x hx, h5 x hx⟩, h3⟩⟩
    exfalso
    have : effect o.op = 0 ∨ effect o.op = 1 := by omega
    rcases this with e | e
    · exact he0 e
    · exact he1 e

theorem Unw.ne {v : AV} {b : Bool} (h : Unw v b) : v ≠ .p (.bool b) := by
  cases h with
  | bool b' => intro e; cases b' <;> cases e
  | skip => intro e; cases e

theorem opsE_cons {o : IO_} {r : List IO_} {bs : List Nat} {idx : Nat} {log : LG} {K : FR → List Ob → List Ob → Prop} {fr : FR} {ba lo : List Ob} (h : opsE P (o :: r) bs idx log fr ba lo K) :
    ((∀ t b, o.guard = some (t, b) → getF fr t = .p (.bool b)) ∧ opV P true o.op fr ba lo (nextE P (bs.headD 0) o r bs.tail idx log fr K)) ∨
    (∃ t b, o.guard = some (t, b) ∧ Unw (getF fr t) b ∧ opsE P r bs.tail (idx + 1) log (putF fr o.dst (.p (.tup []))) ba lo K) := by
  replace h : opsEStep P (bs.headD 0) idx o (opsE P r bs.tail (idx + 1)) log fr ba lo K := h
  unfold opsEStep at h
  split at h
  · rename_i hg
    exact .inl ⟨fun t b e => (by rw [hg] at e; cases e), h⟩
  · rename_i t b hg
    rw [getK_eq] at h
    split at h
    · have e : getF fr t = .p (.bool true) := by assumption
      exact .inl ⟨fun t' b' e' => (by rw [hg] at e'; cases e'; exact e), h⟩
    · have e : getF fr t = .p (.bool false) := by assumption
      exact .inl ⟨fun t' b' e' => (by rw [hg] at e'; cases e'; exact e), h⟩
    · have e : getF fr t = .p (.bool true) := by assumption
      rw [putK_eq] at h
      exact .inr ⟨t, false, hg, by rw [e]; exact .bool true, h⟩
    · have e : getF fr t = .p (.bool false) := by assumption
      rw [putK_eq] at h
      exact .inr ⟨t, true, hg, by rw [e]; exact .bool false, h⟩
    · have e : getF fr t = .p (.tup []) := by assumption
      rw [putK_eq] at h
      exact .inr ⟨t, true, hg, by rw [e]; exact .skip _, h⟩
    · have e : getF fr t = .p (.tup []) := by assumption
      rw [putK_eq] at h
      exact .inr ⟨t, false, hg, by rw [e]; exact .skip _, h⟩
    · exact h.elim

/-- The run in the text's order. -/
theorem canonE {own : List Nat} {all : List Oper} {K : FR → List Ob → List Ob → Prop} : ∀ (l : List Oper) (is : List IO_) (i : Nat), compOps P N own all i l = some is → ∀ {bs : List Nat} {idx : Nat} {log : LG} {fr : FR} {ba lo : List Ob}, (∀ x, x ∈ log → x.1 < idx ∧ effect x.2.1 = 1 ∧ Seen P x.2 ba lo) → opsE P is bs idx log fr ba lo K →
    ∃ (F : Nat → FR) (B' L : Nat → List Ob) (V : Nat → AV), F 0 = fr ∧ B' 0 = ba ∧ L 0 = lo ∧ K (F l.length) (B' l.length) (L l.length) ∧
      (∀ j o io, l[j]? = some o → is[j]? = some io → StepC P o io (F j) (F (j + 1)) (B' j) (L j) (B' (j + 1)) (L (j + 1)) (V j)) ∧
      (∀ x h, x ∈ log → h ≤ l.length → (∀ k, k < h → 2 ≤ effect (is.getD k default).op → (bs.getD k 0).testBit x.1 = false) → Seen P x.2 (B' h) (L h)) ∧
      (∀ j h o io, j < h → h ≤ l.length → l[j]? = some o → is[j]? = some io → effect io.op = 1 → (∀ t b, io.guard = some (t, b) → getF (F j) t = .p (.bool b)) → (∀ k, j < k → k < h → 2 ≤ effect (is.getD k default).op → (bs.getD k 0).testBit (idx + j) = false) → Seen P (io.op, F j, V j) (B' h) (L h))
  | [], is, i, hc, bs, idx, log, fr, ba, lo, hl, h => by
    cases hc
    exact ⟨fun _ => fr, fun _ => ba, fun _ => lo, fun _ => .p .undef, rfl, rfl, rfl, h, fun j o io e => by simp at e, fun x h hx _ _ => (hl x hx).2.2, fun j h o io _ _ e => by simp at e⟩
  | o :: l, is, i, hc, bs, idx, log, fr, ba, lo, hl, h => by
    simp only [compOps] at hc
    split at hc
    · rename_i io ios hio hios
      cases hc
      obtain ⟨c1, c2, c3, c4⟩ := compI_out hio
      have hbs : ∀ k, bs.tail.getD k 0 = bs.getD (k + 1) 0 := fun k => by cases bs <;> simp
      have hb0 : bs.headD 0 = bs.getD 0 0 := by cases bs <;> simp
      have rest : ∀ {v : AV} {ba' lo' : List Ob} {log' : LG}, (∀ x, x ∈ log → (2 ≤ effect io.op → (bs.getD 0 0).testBit x.1 = false) → x ∈ log') → (∀ x, x ∈ log' → x.1 < idx + 1 ∧ effect x.2.1 = 1 ∧ Seen P x.2 ba' lo') → (effect io.op = 1 → (∀ t b, io.guard = some (t, b) → getF fr t = .p (.bool b)) → (idx, io.op, fr, v) ∈ log') → StepC P o io fr (putF fr io.dst v) ba lo ba' lo' v → opsE P ios bs.tail (idx + 1) log' (putF fr io.dst v) ba' lo' K → ∃ (F : Nat → FR) (B' L : Nat → List Ob) (V : Nat → AV), F 0 = fr ∧ B' 0 = ba ∧ L 0 = lo ∧ K (F (o :: l).length) (B' (o :: l).length) (L (o :: l).length) ∧
          (∀ j o' io', (o :: l)[j]? = some o' → (io :: ios)[j]? = some io' → StepC P o' io' (F j) (F (j + 1)) (B' j) (L j) (B' (j + 1)) (L (j + 1)) (V j)) ∧
          (∀ x h, x ∈ log → h ≤ (o :: l).length → (∀ k, k < h → 2 ≤ effect ((io :: ios).getD k default).op → (bs.getD k 0).testBit x.1 = false) → Seen P x.2 (B' h) (L h)) ∧
          (∀ j h o' io', j < h → h ≤ (o :: l).length → (o :: l)[j]? = some o' → (io :: ios)[j]? = some io' → effect io'.op = 1 → (∀ t b, io'.guard = some (t, b) → getF (F j) t = .p (.bool b)) → (∀ k, j < k → k < h → 2 ≤ effect ((io :: ios).getD k default).op → (bs.getD k 0).testBit (idx + j) = false) → Seen P (io'.op, F j, V j) (B' h) (L h)) := fun {v ba' lo' log'} hsub hl' hin hs h => by
        obtain ⟨F, B', L, V, e1, e2, e3, hk, hst, hs1, hs2⟩ := canonE l ios (i + 1) hios hl' h
        refine ⟨fun j => match j with | 0 => fr | j + 1 => F j, fun j => match j with | 0 => ba | j + 1 => B' j, fun j => match j with | 0 => lo | j + 1 => L j, fun j => match j with | 0 => v | j + 1 => V j, rfl, rfl, rfl, hk, fun j o' io' h1 h2 => ?_, fun x h hx hh hfree => ?_, fun j h o' io' hjh hh h1 h2 h3 h4 hfree => ?_⟩
        · cases j with
          | zero =>
            simp at h1 h2
            subst h1; subst h2
            show StepC P o io fr (F 0) ba lo (B' 0) (L 0) v
            rw [e1, e2, e3]; exact hs
          | succ j => exact hst j o' io' (by simpa using h1) (by simpa using h2)
        · cases h with
          | zero => exact (hl x hx).2.2
          | succ h =>
            refine hs1 x h (hsub x hx fun he => hfree 0 (by omega) (by simpa using he)) (by simpa using hh) fun k hk he => ?_
            rw [hbs]
            exact hfree (k + 1) (by omega) (by simpa using he)
        · cases h with
          | zero => omega
          | succ h =>
            cases j with
            | zero =>
              simp at h1 h2
              subst h1; subst h2
              refine hs1 _ h (hin h3 h4) (by simpa using hh) fun k hk he => ?_
              rw [hbs]
              have := hfree (k + 1) (by omega) (by omega) (by simpa using he)
              simpa using this
            | succ j =>
              refine hs2 j h o' io' (by omega) (by simpa using hh) (by simpa using h1) (by simpa using h2) h3 h4 fun k hjk hk he => ?_
              rw [hbs]
              have := hfree (k + 1) (by omega) (by omega) (by simpa using he)
              have e : idx + 1 + j = idx + (j + 1) := by omega
              rw [e]; exact this
      rcases opsE_cons h with ⟨hg, h⟩ | ⟨t, b, hg, hv, h⟩
      · obtain ⟨v, ba', lo', hk, s1, s2, s3, s4, s5, s6⟩ := step_of c2 h
        obtain ⟨log', k1, k2, k3⟩ := nextE_out (fun x hx => (hl x hx).2.1) hk
        refine rest (log' := log') (fun x hx hfree => ?_) (fun x hx => ?_) (fun e _ => ?_) ⟨rfl, s1, s2, .inr ⟨hg, s3, s4, s5⟩⟩ k1
        · rcases Nat.lt_or_ge (effect io.op) 2 with he | he
          · exact (k2 he).1 x hx
          · exact (k3 he).2 x hx (by rw [hb0]; exact hfree he)
        · rcases Nat.lt_or_ge (effect io.op) 2 with he | he
          · obtain ⟨g1, g2⟩ := s1 he
            rcases (k2 he).2.1 x hx with hx | ⟨rfl, e1⟩
            · obtain ⟨q1, q2, q3⟩ := hl x hx
              exact ⟨by omega, q2, by rw [g1, g2]; exact q3⟩
            · exact ⟨by simp, e1, by rw [g1, g2]; exact s6 e1⟩
          · obtain ⟨q1, q2⟩ := (k3 he).1 x hx
            exact ⟨by have := (hl x q1).1; omega, (hl x q1).2.1, q2⟩
        · exact (k2 (by omega)).2.2 e
      · exact rest (log' := log) (fun x hx _ => hx) (fun x hx => by have := hl x hx; exact ⟨by omega, this.2.1, this.2.2⟩) (fun e hg' => by
          exact absurd (hg' t b hg) hv.ne) ⟨rfl, fun _ => ⟨rfl, rfl⟩, fun _ => ⟨rfl, [], by simp⟩, .inl ⟨t, b, hg, hv, rfl, rfl, rfl⟩⟩ h
    · cases hc

theorem eops_sound {own : List Nat} {all : List Oper} {is : List IO_} {id : Nat} {Q : Exit → Act → World → Prop} {K : FR → List Ob → List Ob → Prop} {μ : List MI} {w : World} {a : Act} {fr : FR} {ba lo : List Ob} (hc : compOps P N own all 0 all = some is) (hd : drawOk true all is = true) (hm : P.follows .mixedOrders = true) (h : opsE P is (befores all) 0 [] fr ba lo K) (hr : Rel N B μ w a fr ba lo)
    (hq : ∀ fr' ba' lo' μ' w' a', K fr' ba' lo' → Rel N B μ' w' a' fr' ba' lo' → Le μ w μ' w' → ba'.length = ba.length → Q .normal a' w') : (Code.region id all.toArray true).wpIn (FW ro) nd P Q a w := by
  obtain ⟨F, B', L, V, e1, e2, e3, hk, hst, _, hs⟩ := canonE all is 0 hc (log := []) (fun x hx => by cases hx) h
  refine any_sound hc hd hm e1 e2 e3 hk hst (fun _ j h o io hj hh h1 h2 h3 h4 h5 => ?_) hr hq
  obtain ⟨_, hci⟩ := compOps_get all is 0 hc
  have hio := hci j o io h1 h2
  obtain ⟨_, c2, _, _⟩ := compI_out hio
  exact stepAt_of c2 (hs j h o io hj hh h1 h2 h3 h4 (fun k h6 h7 h8 => by rw [Nat.zero_add]; exact h5 k h6 h7 h8) _ ⟨rfl, rfl, rfl⟩)

end
end Go.Proofs.Ytkjidklifmcpnaa.AD
