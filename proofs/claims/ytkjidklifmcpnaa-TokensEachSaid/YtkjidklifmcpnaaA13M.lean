/- A plainer machine, thirteen and a half: maps. -/
import Derived.Test.YtkjidklifmcpnaaA13
import Derived.MapKept
import Derived.WideMake
namespace Go.Proofs.Ytkjidklifmcpnaa.AD
open Go.MapKept
set_option linter.unusedVariables false
set_option linter.unusedSimpArgs false

section ops
variable {P : Program} {o : Oper} {fr : FR} {ba lo : List Ob} {K : AV → List Ob → List Ob → Prop} {d : Bool}

theorem map_some {α β : Type} {x : Option α} {f : α → β} {y : β} (h : x.map f = some y) : ∃ a, x = some a ∧ f a = y := Option.map_eq_some_iff.1 h

def keyD : Option IntKind → TypeDesc
  | none => .string
  | some k => .int k

theorem keyT_out {t : TypeId} {kk : Option IntKind} (h : keyT P t = some kk) : P.underlying t = some (keyD kk) := by
  unfold keyT at h
  split at h
  · cases h; assumption
  · cases h; assumption
  · cases h

theorem key_is {kk : Option IntKind} {k : PV} (h : keyOk kk k = true) {M : Nat → Prop} {w : World} {v : Value} (hv : VP M w v k) : IsKey (keyD kk) v := by
  unfold keyOk at h
  split at h
  · cases hv; exact trivial
  · rename_i j i n
    cases hv
    exact beq_iff_eq.1 h
  · cases h

theorem sameKey_now {kk : Option IntKind} {a b : PV} (ha : keyOk kk a = true) (hb : keyOk kk b = true) {M : Nat → Prop} {w : World} {x y : Value} (hx : VP M w x a) (hy : VP M w y b) {r : Bool} (h : sameKey a b = some r) : Instr.sameNow (keyD kk) x y = some r := by
  unfold sameKey at h
  split at h
  · rename_i s t
    cases hx; cases hy
    cases h
    cases kk with
    | none =>
      simp only [keyD, Instr.sameNow]
      congr 1
      by_cases e : s = t
      · subst e; rw [decide_eq_true rfl]; exact (bytes_beq s s).2 rfl
      · rw [decide_eq_false e]
        cases hb : (s == t) with
        | true => exact absurd ((bytes_beq s t).1 hb) e
        | false => rfl
    | some j => simp [keyOk] at ha
  · rename_i j1 n j2 m
    cases hx; cases hy
    cases h
    cases kk with
    | none => simp [keyOk] at ha
    | some j =>
      have e1 : j1 = j := beq_iff_eq.1 ha
      have e2 : j2 = j := beq_iff_eq.1 hb
      subst e1; subst e2
      simp [keyD, Instr.sameNow]
      rfl
  · cases h

/-- What was found, and what is told of it. -/
def foundV (z : Value) (r : Option (Nat × Value)) : Value :=
  match r with
  | some (_, v) => v
  | none => z
def FoundR (M : Nat → Prop) (w : World) (q : Option PV) (r : Option (Nat × Value)) : Prop :=
  match q, r with
  | none, none => True
  | some v, some (_, y) => VP M w y v
  | _, _ => False

theorem find_out {kk : Option IntKind} {k : PV} (hk : keyOk kk k = true) {M : Nat → Prop} {w : World} {kv : Value} (hkv : VP M w kv k) : ∀ (es : List (PV × PV)) (l : List MapEntry) (i : Nat) (q : Option PV), l.length = es.length →
    (∀ (j : Nat) (x : MapEntry) (e : PV × PV), l[j]? = some x → es[j]? = some e → VP M w x.key e.1 ∧ VP M w x.val e.2) → mfind kk k es = some q →
    ∃ r : Option (Nat × Value), Instr.findNow (keyD kk) kv l i = some r ∧ FoundR M w q r
  | [], l, i, q, hl, h, hq => by
    obtain rfl : l = [] := List.length_eq_zero_iff.1 hl
    cases hq
    exact ⟨none, rfl, trivial⟩
  | (c, v) :: r, [], i, q, hl, h, hq => by cases hl
  | (c, v) :: r, x :: l, i, q, hl, h, hq => by
    obtain ⟨h1, h2⟩ := h 0 x (c, v) rfl rfl
    simp only [mfind] at hq
    split at hq
    · rename_i e1 e2
      cases hq
      have := sameKey_now hk e1 hkv h1 e2
      exact ⟨some (i, x.val), by simp [Instr.findNow, this], h2⟩
    · rename_i e1 e2
      have := sameKey_now hk e1 hkv h1 e2
      obtain ⟨r', g1, g2⟩ := find_out hk hkv r l (i + 1) q (by simpa using hl) (fun j y e hy he => h (j + 1) y e (by simpa using hy) (by simpa using he)) hq
      exact ⟨r', by simp [Instr.findNow, this, g1], g2⟩
    · cases hq

theorem zero_run {et : TypeId} {z : Value} (h : (P.info? et).bind (·.zero) = some z) (w : World) : (zeroValue et).run P w = .ok z w := by
  obtain ⟨i, h1, h2⟩ := Option.bind_eq_some_iff.1 h
  simp [zeroValue, typeInfo, h1, h2]

theorem s_mkmap {t : TypeId} (ho : o.op = .makeMap t none) (h : opV P d .mkmap fr ba lo K) : Sound1 P o fr ba lo K := by
  simp only [opV, pushK_eq] at h
  refine ⟨_, _, _, h, fun μ w a hi hp => ?_⟩
  obtain ⟨h3, h4, h5⟩ := hi.push (w' := w.alloc (.map #[] 0)) (.map w.heap.size) (.map []) (fun b hb => by cases hb; exact Nat.le_refl _) rfl rfl rfl (by simp) (fun b hb => heap_alloc_old w _ b hb) fun hle =>
    .map _ 0 #[] [] (heap_alloc_new w _) rfl fun j x e hx => by simp at hx
  exact ⟨.map (some w.heap.size), _, _, .inl (by simp [execOp, ho, run_makeMap_plain]), .mapr _ _ h5, h3, h4, rfl⟩

theorem mapr_inv {Γ : Ctx} {w : World} {v : Value} {r : Rf} {m : MI} (h : VA Γ w v (.mapr r)) (hm : Γ.at r = some m) {es : List (PV × PV)} {Γ' : Ctx} (hok : ObOk Γ' w m (.map es)) : ∃ b, m = .map b ∧ v = .map (some b) := by
  cases hok with
  | map b clock xs es _ _ _ =>
    cases h with
    | mapr r b' h => rw [hm] at h; cases h; exact ⟨b, rfl, rfl⟩
    | maprGone v r h _ => rw [hm] at h; cases h

theorem s_look {t kt et : TypeId} {x i : Operand} {ok : Bool} {rx ri : Rv} {kk : Option IntKind} {z : Value} {z' : PV} (ho : o.op = .lookup t x i ok) (ht : P.underlying t = some (.map kt et)) (hk : keyT P kt = some kk) (hz : (P.info? et).bind (·.zero) = some z) (hz' : absZ z = some z')
    (hx : rv x = some rx) (hi : rv i = some ri) (h : opV P d (.look kk z' ok rx ri) fr ba lo K) : Sound1 P o fr ba lo K := by
  have hm : x ∈ o.op.operands.toList := by simp [ho, Op.operands]
  have hmi : i ∈ o.op.operands.toList := by simp [ho, Op.operands]
  have hkd := keyT_out hk
  simp only [opV, evK_eq] at h
  split at h
  · rename_i key e1
    obtain ⟨hko, h⟩ := h
    have fin : ∀ (a : Act) (μ : List MI) (w : World) (r : Option (Nat × Value)) (q : Option PV), VP (blocks μ) w (a.eval i) key → FoundR (blocks μ) w q r →
        (∃ es : Array MapEntry, (match a.eval x with | .map none => es = #[] | .map (some b) => ∃ clock, w.heap[b]? = some (.map es clock) | _ => False) ∧ Instr.findNow (keyD kk) (a.eval i) es.toList 0 = some r) →
        ∃ c, (execOp a.eval o).run P w = .ok (.value c) w ∧ VP (blocks μ) w c (lookV z' ok q) := fun a μ w r q g1 g2 ⟨es, g3, g4⟩ => by
      have hck := fun em => run_checkKey (P := P) (w := w) hkd (key_is hko g1) em 9999
      have hfk := run_findKey (P := P) (w := w) hkd g4
      have hzr := zero_run (P := P) hz w
      have hzv := absZ_sound hz' (blocks μ) w
      have run : (Instr.lookup t (a.eval x) (a.eval i) ok).run P w = .ok (if ok then .tuple #[foundV z r, .bool r.isSome] else foundV z r) w := by
        generalize a.eval x = xv at g3
        split at g3
        · subst g3
          cases r with
          | none => simp [Instr.lookup, run_underlying ht, hck, hfk, hzr, Result.andThen, foundV]
          | some p => simp [Instr.lookup, run_underlying ht, hck, hfk, hzr, Result.andThen, foundV]
        · obtain ⟨clock, g3⟩ := g3
          cases r with
          | none => simp [Instr.lookup, run_underlying ht, Go.MapKept.run_getObj_map g3, hck, hfk, hzr, Result.andThen, foundV]
          | some p => simp [Instr.lookup, run_underlying ht, Go.MapKept.run_getObj_map g3, hck, hfk, hzr, Result.andThen, foundV]
        · exact g3.elim
      refine ⟨_, by simp only [execOp, ho]; rw [Sem.run_bind, run]; rfl, ?_⟩
      have two : ∀ (y : Value) (p : PV) (b : Bool), VP (blocks μ) w y p → VP (blocks μ) w (.tuple #[y, .bool b]) (.tup [p, .bool b]) := fun y p b hy => .tup _ _ rfl fun j u c hu hc => by
        match j, hu, hc with
        | 0, hu, hc => cases hu; cases hc; exact hy
        | 1, hu, hc => cases hu; cases hc; exact .bool b
      cases q <;> cases r <;> cases ok <;> first
        | exact g2.elim
        | exact hzv
        | exact g2
        | exact two _ _ _ hzv
        | exact two _ _ _ g2
    split at h
    · rename_i e2
      refine .quiet _ h fun μ w a hinv hp => ?_
      have g1 := (hp.get hmi hi e1).pv
      have g2 := (hp.get hm hx e2).pv
      have g3 : a.eval x = .map none := by generalize a.eval x = xv at g2; cases g2; rfl
      obtain ⟨c, c1, c2⟩ := fin a μ w none none g1 trivial ⟨#[], by rw [g3], rfl⟩
      exact ⟨c, c1, .p _ _ c2⟩
    · rename_i m e2
      obtain ⟨ob, hob, h⟩ := atK_out _ _ _ h
      cases ob <;> first | exact (show False from h).elim | skip
      rename_i es
      obtain ⟨q, hq, h⟩ := h
      refine .quiet _ h fun μ w a hinv hp => ?_
      have g1 := (hp.get hmi hi e1).pv
      obtain ⟨mi, k1, k2⟩ := hinv.at_l hob
      obtain ⟨b, rfl, g3⟩ := mapr_inv (hp.get hm hx e2) k1 k2
      cases k2 with
      | map _ clock xs _ k3 k4 k5 =>
        obtain ⟨r, r1, r2⟩ := find_out hko g1 es xs.toList 0 q (by simpa using k4) (fun j y e hy he => k5 j y e (by simpa using hy) he) hq
        obtain ⟨c, c1, c2⟩ := fin a μ w r q g1 r2 ⟨xs, by rw [g3]; exact ⟨clock, k3⟩, r1⟩
        exact ⟨c, c1, .p _ _ c2⟩
    · rename_i m e2
      obtain ⟨ob, hob, h⟩ := atK_out _ _ _ h
      cases ob <;> first | exact (show False from h).elim | skip
      rename_i es
      obtain ⟨q, hq, h⟩ := h
      refine .quiet _ h fun μ w a hinv hp => ?_
      have g1 := (hp.get hmi hi e1).pv
      obtain ⟨mi, k1, k2⟩ := hinv.at_b hob
      obtain ⟨b, rfl, g3⟩ := mapr_inv (hp.get hm hx e2) k1 k2
      cases k2 with
      | map _ clock xs _ k3 k4 k5 =>
        obtain ⟨r, r1, r2⟩ := find_out hko g1 es xs.toList 0 q (by simpa using k4) (fun j y e hy he => k5 j y e (by simpa using hy) he) hq
        obtain ⟨c, c1, c2⟩ := fin a μ w r q g1 r2 ⟨xs, by rw [g3]; exact ⟨clock, k3⟩, r1⟩
        exact ⟨c, c1, .p _ _ c2⟩
    · exact h.elim
  · exact h.elim

/-- A map written to. -/
theorem put_out {kk : Option IntKind} {k v : PV} (hk : keyOk kk k = true) {M : Nat → Prop} {w : World} {kv vv : Value} (hkv : VP M w kv k) (hvv : VP M w vv v) : ∀ (es : List (PV × PV)) (l : List MapEntry) (i : Nat) (q : List (PV × PV)), l.length = es.length →
    (∀ (j : Nat) (x : MapEntry) (e : PV × PV), l[j]? = some x → es[j]? = some e → VP M w x.key e.1 ∧ VP M w x.val e.2) → mput kk k v es = some q →
    (Instr.findNow (keyD kk) kv l i = some none ∧ q = es ++ [(k, v)]) ∨
    ∃ (j : Nat) (x : MapEntry), Instr.findNow (keyD kk) kv l i = some (some (i + j, x.val)) ∧ l[j]? = some x ∧ x.key = kv ∧ q = es.set j (k, v)
  | [], l, i, q, hl, h, hq => by
    obtain rfl : l = [] := List.length_eq_zero_iff.1 hl
    cases hq
    exact .inl ⟨rfl, rfl⟩
  | (c, u) :: r, [], i, q, hl, h, hq => by cases hl
  | (c, u) :: r, x :: l, i, q, hl, h, hq => by
    obtain ⟨h1, h2⟩ := h 0 x (c, u) rfl rfl
    simp only [mput] at hq
    split at hq
    · rename_i e1 e2
      cases hq
      have hn := sameKey_now hk e1 hkv h1 e2
      refine .inr ⟨0, x, by simp [Instr.findNow, hn], rfl, ?_, rfl⟩
      obtain ⟨r', h3, h4⟩ := sameNow_of_keys (key_is hk hkv) (key_is e1 h1)
      rw [h3] at hn
      cases hn
      exact (h4.1 rfl).symm
    · rename_i e1 e2
      obtain ⟨q', hq', rfl⟩ := map_some hq
      have hn := sameKey_now hk e1 hkv h1 e2
      rcases put_out hk hkv hvv r l (i + 1) q' (by simpa using hl) (fun j y e hy he => h (j + 1) y e (by simpa using hy) (by simpa using he)) hq' with ⟨g1, rfl⟩ | ⟨j, y, g1, g2, g3, rfl⟩
      · exact .inl ⟨by simp [Instr.findNow, hn, g1], rfl⟩
      · exact .inr ⟨j + 1, y, by simp [Instr.findNow, hn, g1]; omega, by simpa using g2, g3, rfl⟩
    · cases hq

theorem s_mset {t kt et : TypeId} {x i y : Operand} {rx ri ry : Rv} {kk : Option IntKind} (ho : o.op = .mapUpdate t x i y) (ht : P.underlying t = some (.map kt et)) (hk : keyT P kt = some kk)
    (hx : rv x = some rx) (hi : rv i = some ri) (hy : rv y = some ry) (h : opV P d (.mset kk rx ri ry) fr ba lo K) : Sound1 P o fr ba lo K := by
  have hm : x ∈ o.op.operands.toList := by simp [ho, Op.operands]
  have hmi : i ∈ o.op.operands.toList := by simp [ho, Op.operands]
  have hmy : y ∈ o.op.operands.toList := by simp [ho, Op.operands]
  have hkd := keyT_out hk
  simp only [opV, evK_eq] at h
  split at h
  · rename_i key val e1 e2
    obtain ⟨hko, h⟩ := h
    have fin : ∀ (a : Act) (μ : List MI) (w : World) (b clock : Nat) (xs : Array MapEntry) (es q : List (PV × PV)), VP (blocks μ) w (a.eval i) key → VP (blocks μ) w (a.eval y) val → a.eval x = .map (some b) → w.heap[b]? = some (.map xs clock) → xs.size = es.length →
        (∀ (j : Nat) (x : MapEntry) (e : PV × PV), xs[j]? = some x → es[j]? = some e → VP (blocks μ) w x.key e.1 ∧ VP (blocks μ) w x.val e.2) → mput kk key val es = some q →
        ∃ (xs' : Array MapEntry) (clock' : Nat), (execOp a.eval o).run P w = .ok .skip { w with heap := w.heap.setIfInBounds b (.map xs' clock') } ∧ xs'.size = q.length ∧ ∀ (j : Nat) (x : MapEntry) (e : PV × PV), xs'[j]? = some x → q[j]? = some e → VP (blocks μ) w x.key e.1 ∧ VP (blocks μ) w x.val e.2 := fun a μ w b clock xs es q g1 g2 g3 g4 g5 g6 hq => by
      have hck := fun em => run_checkKey (P := P) (w := w) hkd (key_is hko g1) em 9999
      rcases put_out hko g1 g2 es xs.toList 0 q (by simpa using g5) (fun j y e hy he => g6 j y e (by simpa using hy) he) hq with ⟨f1, rfl⟩ | ⟨j, e, f1, f2, f3, rfl⟩
      · have hfk := run_findKey (P := P) (w := w) hkd f1
        refine ⟨xs.push { key := a.eval i, val := a.eval y, born := clock }, clock + 1, ?_, by simp [g5], fun j u e hu he => ?_⟩
        · simp [execOp, ho, g3, Instr.mapUpdate, run_underlying ht, Go.MapKept.run_getObj_map g4, hck, hfk, run_setObj_map _ g4, Result.andThen]
        · rw [Array.getElem?_push] at hu
          by_cases hj : j = xs.size
          · rw [if_pos hj] at hu
            cases hu
            rw [List.getElem?_append_right (by omega), hj, g5, Nat.sub_self] at he
            cases he
            exact ⟨g1, g2⟩
          · rw [if_neg hj] at hu
            rw [List.getElem?_append_left (by have := (Array.getElem?_eq_some_iff.1 hu).1; omega)] at he
            exact g6 j u e hu he
      · have hfk := run_findKey (P := P) (w := w) hkd f1
        have hj : xs[j]? = some e := by simpa using f2
        simp only [Nat.zero_add] at hfk
        refine ⟨xs.modify j fun e => { e with key := a.eval i, val := a.eval y }, clock, ?_, by simp [g5], fun k u e' hu he => ?_⟩
        · simp [execOp, ho, g3, Instr.mapUpdate, run_underlying ht, Go.MapKept.run_getObj_map g4, hck, hfk, hj, f3, run_keyThatStays (key_is hko g1), run_setObj_map _ g4, Result.andThen]
        · rw [Array.getElem?_modify] at hu
          rw [List.getElem?_set] at he
          by_cases hkj : j = k
          · subst hkj
            rw [if_pos rfl] at hu he
            split at he
            · cases he
              rw [hj] at hu
              cases hu
              exact ⟨g1, g2⟩
            · cases he
          · rw [if_neg hkj] at hu he
            exact g6 k u e' hu he
    split at h
    · rename_i m e3
      obtain ⟨ob, hob, h⟩ := atK_out _ _ _ h
      cases ob <;> first | exact (show False from h).elim | skip
      rename_i es
      obtain ⟨q, hq, h⟩ := h
      obtain ⟨hml, h⟩ := setAtK_out _ _ _ _ h
      refine ⟨_, _, _, h, fun μ w a hinv hp => ?_⟩
      have g1 := (hp.get hmi hi e1).pv
      have g2 := (hp.get hmy hy e2).pv
      obtain ⟨mi, k1, k2⟩ := hinv.at_l hob
      obtain ⟨b, rfl, g3⟩ := mapr_inv (hp.get hm hx e3) k1 k2
      have hmi' : μ[ba.length + m]? = some (.map b) := k1
      cases k2 with
      | map _ clock xs _ k3 k4 k5 =>
        obtain ⟨xs', clock', c1, c2, c3⟩ := fin a μ w b clock xs es q g1 g2 g3 k3 k4 k5 hq
        obtain ⟨hs1, hs2⟩ := heap_set (o' := .map xs' clock') k3
        obtain ⟨r1, r2⟩ := hinv.change (w' := { w with heap := w.heap.setIfInBounds b (.map xs' clock') }) (ba' := ba) (lo' := lo.set m (.map q)) hmi' (.refl _)
          (fun b' hb' => .inl hb') rfl rfl rfl (by simp) (fun b' hb' hne => hs2 b' fun e => hne (by rw [e]; rfl)) rfl (by simp) (fun j hj => rfl)
          (fun k hk => by rw [List.getElem?_set_ne (by omega)]) (fun hle o' hlt => by omega) (fun hle k o' hk ho' => by
            have hk' : k = m := by omega
            subst hk'
            rw [List.getElem?_set, if_pos rfl, if_pos hml] at ho'
            cases ho'
            exact .map b clock' xs' q hs1 c2 fun j x e hx he => ⟨(c3 j x e hx he).1.mono hle.stays, (c3 j x e hx he).2.mono hle.stays⟩)
        exact ⟨undef, _, _, .inr ⟨c1, rfl⟩, .p _ _ (.undef _), r1, r2, rfl⟩
    · rename_i m e3
      obtain ⟨ob, hob, h⟩ := atK_out _ _ _ h
      cases ob <;> first | exact (show False from h).elim | skip
      rename_i es
      obtain ⟨q, hq, h⟩ := h
      obtain ⟨hml, h⟩ := setAtK_out _ _ _ _ h
      refine ⟨_, _, _, h, fun μ w a hinv hp => ?_⟩
      have g1 := (hp.get hmi hi e1).pv
      have g2 := (hp.get hmy hy e2).pv
      obtain ⟨mi, k1, k2⟩ := hinv.at_b hob
      obtain ⟨b, rfl, g3⟩ := mapr_inv (hp.get hm hx e3) k1 k2
      have hmi' : μ[m]? = some (.map b) := by
        simp only [Ctx.at] at k1
        rw [if_pos hml] at k1
        exact k1
      cases k2 with
      | map _ clock xs _ k3 k4 k5 =>
        obtain ⟨xs', clock', c1, c2, c3⟩ := fin a μ w b clock xs es q g1 g2 g3 k3 k4 k5 hq
        obtain ⟨hs1, hs2⟩ := heap_set (o' := .map xs' clock') k3
        obtain ⟨r1, r2⟩ := hinv.change (w' := { w with heap := w.heap.setIfInBounds b (.map xs' clock') }) (ba' := ba.set m (.map q)) (lo' := lo) hmi' (.refl _)
          (fun b' hb' => .inl hb') rfl rfl rfl (by simp) (fun b' hb' hne => hs2 b' fun e => hne (by rw [e]; rfl)) (by simp) rfl
          (fun j hj => by rw [List.getElem?_set_ne (fun e => hj e.symm)]) (fun k hk => rfl) (fun hle o' hlt ho' => by
            rw [List.getElem?_set, if_pos rfl, if_pos hml] at ho'
            cases ho'
            exact .map b clock' xs' q hs1 c2 fun j x e hx he => ⟨(c3 j x e hx he).1.mono hle.stays, (c3 j x e hx he).2.mono hle.stays⟩) (fun hle k o' hk => by omega)
        exact ⟨undef, _, _, .inr ⟨c1, rfl⟩, .p _ _ (.undef _), r1, r2, by simp⟩
    · exact h.elim
  · exact h.elim

end ops
end Go.Proofs.Ytkjidklifmcpnaa.AD
